/-
  The document's Check, Names, Find, At.
-/
import Derived.Test.YtaophcndkhnbeaaRefRows
import Derived.Test.YtaophcndkhnbeaaWRef
import Derived.Test.YtaophcndkhnbeaaPlain2
namespace Go.Proofs.Ytaophcndkhnbeaa
open Go.RowKit

theorem rowCells_at (rs : List (Nat × ByteArray)) (k : Nat) (hk : k < rs.length) : (rowCells rs)[2 * k]? = some (.int .i64 rs[k].1) ∧ (rowCells rs)[2 * k + 1]? = some (.string rs[k].2) := by
  induction rs generalizing k with
  | nil => simp at hk
  | cons r l ih =>
    have e : rowCells (r :: l) = .int .i64 r.1 :: .string r.2 :: rowCells l := by simp [rowCells]
    rw [e]
    cases k with
    | zero => simp
    | succ k =>
      have := ih k (by simpa using hk)
      rw [show 2 * (k + 1) = 2 * k + 1 + 1 by omega]
      simpa using this
theorem rows_cells {w : World} {b o : Nat} {rs : List (Nat × ByteArray)} (h : Row w (some ⟨b, o, none⟩) (rowCells rs)) (k : Nat) (hk : k < rs.length) :
    w.cell? ⟨b, o + k * 2, none⟩ = some (.int .i64 rs[k].1) ∧ w.cell? ⟨b, o + k * 2 + 1, none⟩ = some (.string rs[k].2) := by
  rw [Nat.mul_comm k 2]
  have hl := rowCells_len rs
  obtain ⟨h1, h2⟩ := rowCells_at rs k hk
  have c1 := h.cell (2 * k) (by omega)
  have c2 := h.cell (2 * k + 1) (by omega)
  rw [List.getElem?_eq_getElem (by omega)] at h1 h2
  rw [Option.some.inj h1] at c1
  rw [Option.some.inj h2] at c2
  exact ⟨c1, c2⟩

theorem name_size (tab : List UInt8) : ∀ s ∈ namesP tab, s.size ≤ tab.length := by
  intro s hs
  obtain ⟨⟨p, n⟩, hm, rfl⟩ := List.mem_map.1 hs
  cases tab with
  | nil => simp [rowsP, pieces] at hm
  | cons b t => have := (rowsP_mem t b p n hm).2.1; show n.size ≤ _; omega

set_option maxHeartbeats 1000000 in
theorem refchk_any (q : Option Addr) (c : Nat) (tab : List UInt8) (w : World) (hqc : tab.length ≤ c) (hm : tab.length ≤ 1000000) (hrow : Row w q (u8s tab)) :
    Calls Try.prog 21 #[.slice q tab.length c] w fun e w' => e = .returned (.int .i64 (chkR tab)) ∧ Below w.heap.size w w' := by
  have HNS := hid (name_size tab)
  have HLN : Hid ((namesP tab).length = (rowsP tab).length) := by simp [Hid, namesP]
  have hrl := rowsP_len tab
  go_enter Try.func21, Try.ntmps21
  go_wp2_with (go_at_call 31; refine (refrows_any q c tab w hqc (by omega) hrow).mono ?_; rintro e w2 ⟨v, rfl, ho, hb⟩; obtain ⟨vp, vc, rfl, hvc, hvm, hvr, hvn, hvg⟩ := own_row ho)
  have hz2 := hb.size
  go_loopw [3, 5] (fun v i wr => ∃ k : Nat, k ≤ (rowsP tab).length ∧ i = .int .i64 k ∧ wr.ownsRow w2.heap.size 9 1 v k (((namesP tab).take k).map Value.string) ∧ Below w2.heap.size w2 wr) (fun _ i _ => (rowsP tab).length - (intOf i).toNat)
  case atStart => exact ⟨0, Nat.zero_le _, rfl, by simpa using World.ownsRow_nil _ _ _ _, Below.refl _ _⟩
  case round =>
    obtain ⟨k, hk, rfl, hown, hbr⟩ := hrel
    have hzr := hbr.size
    by_cases hlt : k < (rowsP tab).length
    · have hrr := hvr.below hbr
      obtain ⟨b, o, rfl, _, _⟩ := hrr.at (by rw [rowCells_len]; omega)
      obtain ⟨_, c1⟩ := rows_cells hrr k hlt
      have HT : Hid (((namesP tab).take (k + 1)).map Value.string = ((namesP tab).take k).map Value.string ++ [.string (rowsP tab)[k].2]) := by
        rw [Hid, take_succ _ k (by rw [HLN.out]; exact hlt), List.map_append]
        simp [namesP]
      generalize (rowsP tab)[k] = r at *
      go_wp2_with ((with_reducible show wpList _ _ _ (⟨some 27, _, _, _, _, _⟩ :: _) _ _); go_loud (refine wpList_app E22 rfl _ _ rfl w2.heap.size _ _ _ rfl (hown.alloc _) _ 1 1 [.string r.2] rfl rfl (by simp) (row_new _ _ _) (by simp [Value.oneCell']) (by unfold maxLen; omega) (by omega) (by simp; omega) ?_); intro v3 w3 ho3 hg3 hs3)
      go_roundw
      case rel => exact ⟨k + 1, by omega, by go_num, by rw [HT.out]; exact ho3, (hbr.alloc hzr _).grown hg3 (by simp; omega) (own_ge hown)⟩
      case measure => simp [intOf]; omega
    · obtain rfl : k = (rowsP tab).length := by omega
      rw [← HLN.out, List.take_of_length_le (Nat.le_refl _)] at hown
      obtain ⟨np, nc, rfl, _, _, hnr, _, _⟩ := own_row hown
      have HB := hid (refbuild_any np nc (namesP tab) wr (by rw [HLN.out]; omega) (fun s hs => by have := HNS.out s hs; omega) (fun j hj hl => by
        have h1 := rst_tab_le (namesP tab) j hl
        have h2 := HNS.out _ (List.getElem_mem hj)
        omega) hnr)
      rw [← buildP_eq] at HB
      have HR : Hid (chkR tab = if (buildP (namesP tab)).2.2 = 0 ∧ (buildP (namesP tab)).1 = tab then 0 else 190) := if_neg (by omega)
      have HCT := hid (fun (w' : World) (hb' : Below w.heap.size w w') => conv_row (hrow.below hb') c)
      generalize buildP (namesP tab) = B at *
      obtain ⟨bt, bp, be⟩ := B
      have hbw3 := hb.trans (hbr.mono hz2)
      clear hrow hvr hown hnr HNS
      by_cases he : be = 0
      · have hen : (be != 0) = false := by rw [he]; rfl
        by_cases htb : bt = tab
        · have HR2 : Hid (chkR tab = 0) := HR.out.trans (if_pos ⟨he, htb⟩)
          have hse : (bt == tab) = true := by rw [htb]; exact beq_self_eq_true _
          clear HR htb
          subst he
          go_wp2_with (go_at_call 11; refine HB.out.mono ?_; rintro e w3 ⟨tv, pv, rfl, ho3, _, hb3⟩; obtain ⟨tp, tc, rfl, _, _, htr, _, _⟩ := own_row ho3; have hcv1 := conv_row htr tc; have hbw4 := hbw3.trans (hb3.mono (by omega)); have hcv2 := HCT.out w3 hbw4)
          go_ret
          rw [HR2.out]
          exact ⟨rfl, hbw4⟩
        · have HR2 : Hid (chkR tab = 190) := HR.out.trans (if_neg (fun h => htb h.2))
          have hse : (bt == tab) = false := by rw [beq_eq_false_iff_ne]; exact htb
          clear HR htb
          subst he
          go_wp2_with (go_at_call 11; refine HB.out.mono ?_; rintro e w3 ⟨tv, pv, rfl, ho3, _, hb3⟩; obtain ⟨tp, tc, rfl, _, _, htr, _, _⟩ := own_row ho3; have hcv1 := conv_row htr tc; have hbw4 := hbw3.trans (hb3.mono (by omega)); have hcv2 := HCT.out w3 hbw4)
          go_ret
          rw [HR2.out]
          exact ⟨rfl, hbw4⟩
      · have hen : (be != 0) = true := by rw [bne_iff_ne]; exact he
        have HR2 : Hid (chkR tab = 190) := HR.out.trans (if_neg (fun h => he h.1))
        clear he HR
        go_wp2_with (go_at_call 11; refine HB.out.mono ?_; rintro e w3 ⟨tv, pv, rfl, ho3, _, hb3⟩)
        go_ret
        rw [HR2.out]
        exact ⟨rfl, hbw3.trans (hb3.mono (by omega))⟩

set_option maxHeartbeats 1000000 in
theorem refnames_any (q : Option Addr) (c : Nat) (tab : List UInt8) (w : World) (hqc : tab.length ≤ c) (hm : tab.length ≤ 1000000) (hrow : Row w q (u8s tab)) :
    Calls Try.prog 24 #[.slice q tab.length c] w fun e w' => ∃ v, e = .returned v ∧ w'.ownsRow w.heap.size 43 2 v (namesC tab).length (rowCells (namesC tab)) ∧ Below w.heap.size w w' := by
  have HC := hid (refchk_any q c tab w hqc hm hrow)
  rw [← chk_eq] at HC
  by_cases hk : chkC tab = 0
  · have hkn : (chkC tab != 0) = false := by rw [hk]; rfl
    have HN : Hid (namesC tab = rowsP tab) := if_pos hk
    clear hk
    go_enter Try.func24, Try.ntmps24
    go_wp2_with (first
      | (go_at_call 21; refine HC.out.mono ?_; rintro e w2 ⟨rfl, hb2⟩; have hz2 := hb2.size)
      | (go_at_call 31; refine (refrows_any q c tab _ hqc (by omega) (hrow.below hb2)).mono ?_; rintro e w3 ⟨v, rfl, ho, hb3⟩))
    go_ret
    refine ⟨_, rfl, ?_, hb2.trans (hb3.mono hz2)⟩
    rw [HN.out]
    exact own_lower ho hz2
  · have hkn : (chkC tab != 0) = true := by rw [bne_iff_ne]; exact hk
    have HN : Hid (namesC tab = []) := if_neg hk
    clear hk
    go_enter Try.func24, Try.ntmps24
    go_wp2_with (go_at_call 21; refine HC.out.mono ?_; rintro e w2 ⟨rfl, hb2⟩)
    go_ret
    refine ⟨_, rfl, ?_, hb2⟩
    rw [HN.out]
    exact World.ownsRow_nil _ _ _ _
end Go.Proofs.Ytaophcndkhnbeaa
