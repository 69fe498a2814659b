/-
  The law of StrtabBack.
-/
import Derived.Test.YtaophcndkhnbeaaAtN
import Derived.Test.YtaophcndkhnbeaaFindN
import Derived.Test.YtaophcndkhnbeaaRowsI
import Derived.Test.YtaophcndkhnbeaaTells
import Derived.Test.YtaophcndkhnbeaaRefChk
import Derived.Test.YtaophcndkhnbeaaWBuild
import Derived.Test.YtaophcndkhnbeaaLive
import Derived.Deep.CutRange
namespace Go.Proofs.Ytaophcndkhnbeaa
open Go.RowKit

/-- What the second half needs. -/
theorem back_plain (xs : List ByteArray) (h : (buildP xs).2.2 = 0) :
    chkC (buildP xs).1 = 0 ∧ (buildP xs).1.length ≤ 1048576 ∧ (buildP xs).2.1.length = xs.length ∧
    ∀ k (hk : k < xs.length), ∃ v : Int, (buildP xs).2.1.getD k 0 = v ∧ atC (buildP xs).1 v = (xs[k], 0) ∧ findC (buildP xs).1 xs[k] = (v, true) := by
  obtain ⟨hz, hl, hb⟩ := buildP_ok xs h
  have hz' : ∀ x ∈ xs, hasZero x = false := fun x hx => by simpa using (List.any_eq_false.1 hz) x hx
  have hc := bst_chk xs hz' hl
  rw [hb]
  refine ⟨hc, (bst_tab_le xs).2, bst_places xs, fun k hk => ?_⟩
  obtain ⟨p, h1, h2, h3, h4, h5⟩ := bst_back xs hz' hl k hk
  refine ⟨p, h1, ?_, ?_⟩
  · show atC (bst xs).tab p = _
    unfold atC
    rw [if_neg (by simp [hc]), if_neg (by omega), Int.toNat_natCast, h3]
  · show findC (bst xs).tab xs[k] = _
    unfold findC
    rw [if_neg (by simp [hc])]
    by_cases he : xs[k] = ByteArray.empty
    · rw [if_pos he, h5 he]; rfl
    · rw [if_neg he, h4 he]

set_option maxHeartbeats 2000000 in
/-- The second half: each name is at its place. -/
theorem back_walk (w : World) (p : Option Addr) (c : Nat) (xs : List ByteArray) (hc : xs.length ≤ c) (hcm : c ≤ maxLen) (_ : p = none → c = 0) (hs : ∀ s ∈ xs, s.size ≤ 140737488351232) (hrow : Row w p (xs.map Value.string))
    (q : Option Addr) (d : Nat) (y : List Int) (hd : y.length ≤ d) (hdm : d ≤ maxLen) (_ : q = none → d = 0) (wf : ∀ n ∈ y, (Lit.int .u8 n).wf = true) (row : Row w q (y.map (Value.int .u8))) :
    Calls Try.prog 7 #[.slice p xs.length c, .slice q y.length d] w fun e w' => e = .returned (.bool true) ∧ Below w.heap.size w w' := by
  obtain ⟨tab, htab⟩ : ∃ tab, tab = y.map (fun n => UInt8.ofNat n.toNat) := ⟨_, rfl⟩
  have htr : Row w q (u8s tab) := by rw [htab, bytes_back y wf]; exact row
  have hl : y.length = tab.length := by rw [htab]; simp
  rw [hl] at hd ⊢
  unfold maxLen at hcm hdm
  clear htab row wf hl
  have hm : xs.length ≤ 9223372036854775807 := by omega
  have hs2 : ∀ s ∈ xs, s.size ≤ 9223372036854775807 := fun s h => by have := hs s h; omega
  clear hs hcm
  cases hf : few xs with
  | false =>
    go_enter Try.func7, Try.ntmps7
    go_wp2_with (first
      | (go_at_call 8; refine (live_any _).mono ?_; rintro e w1 ⟨rfl, hb1⟩)
      | (go_at_call 9; refine (few_any _ _ _ _ hc hm hs2 (hrow.below hb1)).mono ?_; rintro e w2 ⟨rfl, rfl⟩; simp only [hf]))
    all_goals (go_ret; exact ⟨rfl, hb1⟩)
  | true =>
    have hl := few_len xs hf
    by_cases hm1 : tab.length ≤ 1000
    rotate_left
    · have hmI : (1000 : Int) < tab.length := by omega
      go_enter Try.func7, Try.ntmps7
      go_wp2_with (first
        | (go_at_call 8; refine (live_any _).mono ?_; rintro e w1 ⟨rfl, hb1⟩)
        | (go_at_call 9; refine (few_any _ _ _ _ hc hm hs2 (hrow.below hb1)).mono ?_; rintro e w2 ⟨rfl, rfl⟩; simp only [hf]))
      go_ret
      exact ⟨rfl, hb1⟩
    have HF := hid hf
    have HSZ := hid hs2
    clear hf hs2
    go_enter Try.func7, Try.ntmps7
    go_upto_if 32 with (first
      | (go_at_call 8; refine (live_any _).mono ?_; rintro e w1 ⟨rfl, hb1⟩)
      | (go_at_call 9; refine (few_any _ _ _ _ hc hm HSZ.out (hrow.below hb1)).mono ?_; rintro e w2 ⟨rfl, rfl⟩; simp only [HF.out])
      | (go_at_call 20; refine (chk_any q d tab _ hd (by omega) (htr.below hb1)).mono ?_; rintro e w2 ⟨rfl, hb⟩; have hb2 := hb1.trans (hb.mono hb1.size); clear hb))
    go_cut [0, 5, 7, 8, 9, 10] from 32 to 59 (fun u0 u5 u7 u8 u9 u10 wx => u0 = .slice p xs.length c ∧ Below w.heap.size w wx)
    case first =>
      by_cases hk : chkC tab = 0
      rotate_left
      · have hkn : (chkC tab == 0) = false := by rw [beq_eq_false_iff_ne]; exact hk
        clear hk
        go_wp2_with fail
        go_meet
        exact ⟨rfl, hb2⟩
      · have hkn : (chkC tab == 0) = true := by rw [beq_iff_eq]; exact hk
        have HN : Hid (namesC tab = rowsP tab) := if_pos hk
        have hrl := rowsP_len tab
        have HLN : Hid ((namesP tab).length = (rowsP tab).length) := by simp [Hid, namesP]
        obtain ⟨pl, hbp⟩ : ∃ pl, buildP (namesP tab) = (tab, pl, 0) := by
          have h := chk_eq tab
          rw [hk] at h
          unfold chkR at h
          rw [if_neg (by omega)] at h
          by_cases hc : (buildP (namesP tab)).2.2 = 0 ∧ (buildP (namesP tab)).1 = tab
          · exact ⟨_, Prod.ext hc.2 (Prod.ext rfl hc.1)⟩
          · rw [if_neg hc] at h; cases h
        have HBP := hid hbp
        clear hk hbp
        go_wp2_with (go_at_call 23; refine (rows_any q d tab _ hd (by omega) (htr.below hb2)).mono ?_; rintro e w3 ⟨v, rfl, ho, hb⟩; rw [HN.out] at ho; have hz2 := hb2.size; have hb3 := hb2.trans (hb.mono hz2); have hz3 := hb3.size; clear hb; obtain ⟨vp, vc, rfl, _, _, hvr, _, _⟩ := own_row ho)
        go_loopw [5, 36] (fun v i wr => ∃ k : Nat, k ≤ (rowsP tab).length ∧ i = .int .i64 k ∧ wr.ownsRow w3.heap.size 9 1 v k (((namesP tab).take k).map Value.string) ∧ Below w3.heap.size w3 wr) (fun _ i _ => (rowsP tab).length - (intOf i).toNat)
        case atStart => exact ⟨0, Nat.zero_le _, rfl, by simpa using World.ownsRow_nil _ _ _ _, Below.refl _ _⟩
        case round =>
          obtain ⟨k, hkk, rfl, hown, hbr⟩ := hrel
          have hzr := hbr.size
          by_cases hlt : k < (rowsP tab).length
          · have hrr := hvr.below hbr
            obtain ⟨b, o, rfl, _, _⟩ := hrr.at (by rw [rowCells_len]; omega)
            obtain ⟨c0, c1⟩ := rows_cells hrr k hlt
            have HT : Hid (((namesP tab).take (k + 1)).map Value.string = ((namesP tab).take k).map Value.string ++ [.string (rowsP tab)[k].2]) := by
              rw [Hid, take_succ _ k (by rw [HLN.out]; exact hlt), List.map_append]
              simp [namesP]
            have hkI : (k : Int) < (rowsP tab).length := by omega
            generalize (rowsP tab)[k] = r at *
            go_wp2_with ((with_reducible show wpList _ _ _ (⟨some 44, _, _, _, _, _⟩ :: _) _ _); go_loud (refine wpList_app E22 rfl _ _ rfl w3.heap.size _ _ _ rfl ((hown.alloc _).alloc _) _ 1 1 [.string r.2] rfl rfl (by simp) (row_newAt _ _ _ _ (by simp)) (by simp [Value.oneCell']) (by unfold maxLen; omega) (by omega) (by simp; omega) ?_); intro v3 w4 ho3 hg3 hs3)
            go_roundw
            case rel => exact ⟨k + 1, by omega, by go_num, by rw [HT.out]; exact ho3, ((hbr.alloc hzr _).alloc (by simp; omega) _).grown hg3 (by simp; omega) (own_ge hown)⟩
            case measure => simp [intOf]; omega
          · obtain rfl : k = (rowsP tab).length := by omega
            rw [← HLN.out, List.take_of_length_le (Nat.le_refl _)] at hown
            obtain ⟨np, nc, rfl, _, _, hnr, _, _⟩ := own_row hown
            have HB := hid (build_any np nc (namesP tab) wr (by rw [HLN.out]; omega) (fun s hs => by have := name_size tab s hs; omega) hnr)
            rw [HBP.out] at HB
            have hb4 := hb3.trans (hbr.mono hz3)
            have hz4 := hb4.size
            have HTR := hid (fun w1 (hb : Below w.heap.size w w1) => htr.below hb)
            have hse : (tab == tab) = true := beq_self_eq_true _
            go_wp2_with (first
              | (go_at_call 10; refine HB.out.mono ?_; rintro e w5 ⟨tv, pv, rfl, ht5, hp5, hb⟩; have hb5 := hb4.trans (hb.mono hz4); clear hb; obtain ⟨tp, tc, rfl, htp⟩ := own_shape ht5)
              | (go_at_call 12; refine (bytesEq_any tp q tc d tab tab _ htp (HTR.out _ hb5)).mono ?_; rintro e w6 ⟨rfl, rfl⟩; simp only [hse]))
            go_meet
            exact ⟨rfl, hb5⟩
    case rest =>
      obtain ⟨rfl, hbc⟩ := hcut
      have hzc := hbc.size
      have HB := hid (build_any p c xs wc (by omega) HSZ.out (hrow.below hbc))
      by_cases he : (buildP xs).2.2 = 0
      rotate_left
      · have hen : ((buildP xs).2.2 != 0) = true := by rw [bne_iff_ne]; exact he
        clear he
        generalize buildP xs = B at *
        go_wp2_with (go_at_call 10; refine HB.out.mono ?_; rintro e w5 ⟨tv, pv, rfl, ht5, hp5, hb⟩; have hb5 := hbc.trans (hb.mono hzc); clear hb)
        go_ret
        exact ⟨rfl, hb5⟩
      · obtain ⟨k1, k2, k3, k4⟩ := back_plain xs he
        have HK1 := hid k1
        have HK3 := hid k3
        have HK4 := hid k4
        have hkn : (chkC (buildP xs).1 != 0) = false := by rw [k1]; rfl
        have hle : (((buildP xs).2.1.length : Int) != xs.length) = false := by rw [k3]; simp
        have hpl : (buildP xs).2.1.length ≤ 100 := by omega
        clear k1 k3 k4
        generalize hBB : buildP xs = B at *
        clear hBB
        obtain ⟨own, pls, ee⟩ := B
        dsimp only at *
        subst he
        go_wp2_with (first
          | (go_at_call 10; refine HB.out.mono ?_; rintro e w5 ⟨tv, pv, rfl, ht5, hp5, hb⟩; have hb5 := hbc.trans (hb.mono hzc); have hz5 := hb5.size; clear hb; obtain ⟨tp, tc, rfl, htc, _, htp, _, _⟩ := own_row ht5; obtain ⟨pp, pc, rfl, _, _, hpp, _, _⟩ := own_row hp5)
          | (go_at_call 20; refine (chk_any tp tc own _ htc (by omega) htp).mono ?_; rintro e w6 ⟨rfl, hb⟩; have hb6 := hb5.trans (hb.mono hz5); have htp6 := htp.below hb; have hpp6 := hpp.below hb; have hz6 := hb6.size; clear hb))
        have hr6 := hrow.below hb6
        clear hkn hle
        go_loopw [80] (fun i wr => ∃ k : Nat, k ≤ xs.length ∧ i = .int .i64 k ∧ Below w6.heap.size w6 wr) (fun i _ => xs.length - (intOf i).toNat)
        case atStart => exact ⟨0, Nat.zero_le _, rfl, Below.refl _ _⟩
        case round =>
          obtain ⟨k, hkk, rfl, hbr⟩ := hrel
          have hzr := hbr.size
          have hbw := hb6.trans (hbr.mono hz6)
          by_cases hlt : k < xs.length
          · obtain ⟨b, o, rfl, _, hcell⟩ := (hr6.below hbr).at (by simp; omega)
            have hck := hcell k (by simpa using hlt)
            simp only [List.getElem_map] at hck
            have hl3 := HK3.out
            obtain ⟨b2, o2, rfl, _, hcell2⟩ := (hpp6.below hbr).at (by simp [i64s]; omega)
            have hpk := hcell2 k (by simp [i64s]; omega)
            simp only [i64s, List.getElem_map] at hpk
            obtain ⟨v, hv, hat, hfd⟩ := HK4.out k hlt
            have hv2 : pls[k]'(by omega) = v := by rw [← hv]; simp [List.getD_eq_getElem?_getD, show k < pls.length by omega]
            rw [hv2] at hpk
            have htpr := htp6.below hbr
            have HAT := hid (fun w1 (hb : Below wr.heap.size wr w1) => at_any tp tc own v w1 htc k2 (htpr.below hb))
            have HFD := hid (fun w1 (hb : Below wr.heap.size wr w1) => find_any tp tc own xs[k] w1 htc k2 (htpr.below hb))
            rw [hat] at HAT
            rw [hfd] at HFD
            have HPK := hid (fun w1 (hb : Below wr.heap.size wr w1) (hbl : b2 < wr.heap.size) => (hb.cell (p := ⟨b2, o2 + k, none⟩) hbl).trans hpk)
            have hkp : (k : Int) < pls.length := by omega
            clear hcell hcell2 hv2 hv hat hfd hl3
            generalize xs[k] = s at *
            have hse : (s.toList == s.toList) = true := beq_self_eq_true _
            go_wp2_with (first
              | (go_at_call 16; refine (HAT.out _ (Below.refl _ _)).mono ?_; rintro e w7 ⟨rfl, hb7⟩; have hz7 := hb7.size; have hpk7 := HPK.out _ hb7 (by assumption))
              | (go_at_call 18; refine (HFD.out _ hb7).mono ?_; rintro e w8 ⟨rfl, hb⟩; have hb8 := hb7.trans (hb.mono hz7); have hz8 := hb8.size; have hpk8 := HPK.out _ hb8 (by assumption)))
            go_roundw
            case rel => exact ⟨k + 1, by omega, by go_num, hbr.trans (hb8.mono hzr)⟩
            case measure => simp [intOf]; omega
          · go_wp2_with fail
            go_ret
            exact ⟨rfl, hbw⟩
end Go.Proofs.Ytaophcndkhnbeaa
