/-
  The walk of LinearWrong.
-/
import Derived.Test.YtdkknnmgdghioaaJF11
namespace Go.Proofs.Ytdkknnmgdghioaa
open Go.RowKit

def noDef (l : List Cl) (i k : Nat) : Prop := ∀ d, d < k → (cAt l d).kind = 1 → (cAt l d).key = (cAt l i).key → (cAt l d).value ≠ (cAt l i).ans
theorem noDef_succ {l : List Cl} {i k : Nat} (h : noDef l i k) (h1 : (cAt l k).kind = 1 → (cAt l k).key = (cAt l i).key → (cAt l k).value ≠ (cAt l i).ans) : noDef l i (k + 1) := fun d hd => by
  by_cases e : d = k
  · subst e; exact h1
  · exact h d (by omega)
set_option maxRecDepth 20000 in
set_option maxHeartbeats 8000000 in
theorem wrong_walk (w : World) (p : Option Addr) (c : Nat) (l : List Cl) (hok : l.length ≤ c ∧ c ≤ maxLen ∧ (p = none → c = 0) ∧ Row w p (l.flatMap Cl.cells) ∧ (∀ x ∈ l, x.ok) ∧ c * Try.prog.bytesOf 38 ≤ 140737488351232) (a : Int) (ha : (Lit.int .u8 a).wf = true) :
    Calls Try.prog 7 #[.slice p l.length c, .int .u8 a] w fun e w' => e = .returned (.bool true) ∧ Below w.heap.size w w' := by
  have HH := hid (hsOk hok)
  have ha1 := wf_u8 ha
  clear hok ha
  go_enter Try.func7, Try.ntmps7
  go_wp2_with (go_at_call 8; (with_reducible refine (live_any _).mono ?_); rintro e w1 ⟨rfl, hb1⟩; have HB1 := hid hb1; clear hb1)
  (with_reducible refine (HH.out.below HB1.out).few.mono ?_)
  rintro e w2 ⟨b, rfl, hfew, hb2⟩
  have HB2 := hid (HB1.out.trans (hb2.mono HB1.out.size))
  clear hb2
  cases b with
  | false =>
    go_wp2
    go_ret
    exact ⟨rfl, HB2.out⟩
  | true =>
    have hl := hfew rfl
    clear hfew
    by_cases hn0 : l.length = 0
    · have hn1 : ((l.length : Int) == 0) = true := by simpa using (by omega : (l.length : Int) = 0)
      have hn2 : (l.length == 0) = true := by simpa using hn0
      clear hn0
      go_wp2
      go_ret
      exact ⟨rfl, HB2.out⟩
    · have hn1 : ((l.length : Int) == 0) = false := by simpa using (by omega : ¬ (l.length : Int) = 0)
      have hn2 : (l.length == 0) = false := by simpa using hn0
      have HC := hid (fun (w1 : World) (hb : Below w.heap.size w w1) => rcheck_any l p c w1 (by omega) HH.out.cap (HH.out.row.below hb))
      unfold RChkTell at HC
      by_cases hz : chkL l = 0
      · rw [hz] at HC
        have HZ := hid hz
        clear hz
        obtain ⟨i, hi⟩ : ∃ i : Nat, (a % (l.length : Int)) = (i : Int) := ⟨(a % (l.length : Int)).toNat, by have := Int.emod_nonneg a (show (l.length : Int) ≠ 0 by omega); omega⟩
        have hil : i < l.length := by have := Int.emod_lt_of_pos a (show (0 : Int) < (l.length : Int) by omega); omega
        have hi2 : (a.tmod (l.length : Int)) = (i : Int) := by rw [Int.tmod_eq_emod_of_nonneg ha1.1]; exact hi
        obtain ⟨bl, ol, rfl, hbl, -⟩ := HH.out.row.at (by have := flat_len Cl.cells 8 (fun _ => rfl) l; omega)
        have hcl := hid (fun (w1 : World) (hb : Below w.heap.size w w1) => cl_cat (HH.out.row.below hb) i hil)
        have HW := hid (wrong_no (chk_ok HZ.out).2.at i hil)
        have hq1 : decide ((i : Int) < 0) = false := decide_eq_false (by omega)
        have hnz : ¬ (l.length : Int) = 0 := by omega
        have hff : Hid (∀ w3, Below w.heap.size w w3 → linB l = false → Calls Try.prog 10 #[.slice (some ⟨bl, ol, none⟩) l.length c] w3 fun e w' => ∃ (q : Option Addr) (n d : Nat), e = .returned (.tuple #[.slice q n d, .bool false, .int .i64 0]) ∧ Below w3.heap.size w3 w') := fun w3 hb3 hlb => by
          refine (find_case l (some ⟨bl, ol, none⟩) c w3 (by omega) (HH.out.below hb3)).mono ?_
          rintro e w' (⟨q, d, hz, rfl, hb3⟩ | ⟨q, d, hz, hn, rfl, hb3⟩ | ⟨q, d, o, hz, hn, hlg, hr, rfl, hb3⟩)
          · exact absurd HZ.out hz
          · exact ⟨q, _, d, rfl, hb3⟩
          · rw [hlb] at hn; cases hn
        have HND0 : Hid (noDef l i 0) := fun d hd => by omega
        have HLB : Hid (¬ Lin l → linB l = false) := linB_no
        have HND1 := hid (fun k h1 (h : noDef l i k) => noDef_succ h h1)
        unfold noDef at HND1
        clear hn0
        obtain ⟨⟨cw, ckd, cky, cva, cfr, cto, can, cer⟩, hcc⟩ : ∃ y, y = cAt l i := ⟨_, rfl⟩
        rw [← hcc] at hcl HW
        dsimp only at HW
        have HCC := hid hcc
        clear hcc
        go_wp2_with fail
        (with_reducible refine (HC.out _ HB2.out).mono ?_)
        rintro e w3 ⟨rfl, hb3⟩
        have HB3 := hid (below_tr hb3 HB2.out)
        obtain ⟨d0, d1, d2, d3, d4, d5, d6, d7⟩ := hcl.out w3 (below_tr hb3 HB2.out)
        clear hb3
        have HBC := hid (fun o : Obj => HB3.out.alloc HB3.out.size o)
        by_cases hkd : ckd = 1
        · have e1 : (ckd == 1) = true := by simpa using hkd
          clear hkd
          go_wp2
          go_ret
          exact ⟨rfl, HBC.out _⟩
        · have e1 : (ckd == 1) = false := by simpa using hkd
          have HKD := hid hkd
          clear hkd
          by_cases hto : cto < 0
          · have e2 : decide (cto < 0) = true := decide_eq_true hto
            go_wp2
            go_ret
            exact ⟨rfl, HBC.out _⟩
          · have e2 : decide (cto < 0) = false := decide_eq_false hto
            by_cases her : cer = 0
            · have e3 : (cer == 0) = true := by simpa using her
              have e4 : (cer != 0) = false := by simpa using her
              have HW2 := hid (fun h => HLB.out (HW.out HKD.out (by omega) her h))
              clear her HW
              go_wp2
              obtain ⟨W5, hW5⟩ : ∃ W5, W5 = w3.alloc (.cells #[.int .i64 cw, .int .i64 ckd, .string cky, .int .i64 cva, .int .i64 cfr, .int .i64 cto, .int .i64 can, .int .i64 cer] 38) := ⟨_, rfl⟩
              have HBK : Hid (W5.heap[w3.heap.size]? = some (.cells #[.int .i64 cw, .int .i64 ckd, .string cky, .int .i64 cva, .int .i64 cfr, .int .i64 cto, .int .i64 can, .int .i64 cer] 38 (0, 0))) := by rw [hW5]; exact heap_alloc_new w3 _
              have HB5 : Hid (Below w.heap.size w W5) := by rw [hW5]; exact HBC.out _
              rw [← hW5]
              clear hW5 d0 d1 d2 d3 d4 d5 d6 d7
              have hz5 := HB5.out.size
              have hz3 : w3.heap.size < W5.heap.size := (Array.getElem?_eq_some_iff.1 HBK.out).1
              go_loopw [49] (fun u wr => ∃ k : Nat, k ≤ l.length ∧ u = .int .i64 k ∧ noDef l i k ∧ Below W5.heap.size W5 wr) (fun u _ => l.length - (intOf u).toNat)
              case atStart => exact ⟨0, Nat.zero_le _, rfl, HND0.out, Below.refl _ _⟩
              case round =>
                obtain ⟨k, hk, rfl, hnd, hb⟩ := hrel
                have HND := hid hnd
                have HB := hid hb
                have HBW := hid (HB5.out.trans (hb.mono hz5))
                clear hnd hb
                by_cases hlt : k < l.length
                · have hkf := (HB.out.block _ hz3).trans HBK.out
                  have q2 := cell_of_row _ _ 2 _ _ _ hkf
                  have q6 := cell_of_row _ _ 6 _ _ _ hkf
                  simp only [List.getElem?_toArray, List.getElem?_cons_zero, List.getElem?_cons_succ] at q2 q6
                  obtain ⟨d0, d1, d2, d3, d4, d5, d6, d7⟩ := cl_cat (HH.out.row.below HBW.out) k hlt
                  have HNX := hid (fun h => HND1.out k h HND.out)
                  rw [← HCC.out] at HNX
                  clear hkf
                  have hz4 : w3.heap.size < wr.heap.size := by have := HB.out.size; omega
                  have HBA := hid (fun o : Obj => HBW.out.alloc HBW.out.size o)
                  have HBA5 := hid (fun o : Obj => HB.out.alloc HB.out.size o)
                  by_cases gk : (cAt l k).kind = 1
                  · rw [gk] at d1
                    by_cases gy : (cAt l k).key = cky
                    · have s1 := strEq gy
                      by_cases gv : (cAt l k).value = can
                      · have s2 : ((cAt l k).value == can) = true := by simpa using gv
                        rw [gy] at d2
                        rw [gv] at d3
                        clear gk gy gv s1 s2
                        go_wp2
                        go_ret
                        exact ⟨rfl, HBA.out _⟩
                      · have s2 : ((cAt l k).value == can) = false := by simpa using gv
                        have HN2 := hid (HNX.out (fun _ _ => gv))
                        rw [gy] at d2
                        clear gk gy gv s1
                        go_wp2
                        exact ⟨⟨k + 1, by omega, by go_num, by unfold noDef; rw [← HCC.out]; exact HN2.out, HBA5.out _⟩, by simp [intOf]; omega⟩
                    · have s1 := strNe gy
                      have HN2 := hid (HNX.out (fun _ h => absurd h gy))
                      clear gk gy
                      go_wp2
                      exact ⟨⟨k + 1, by omega, by go_num, by unfold noDef; rw [← HCC.out]; exact HN2.out, HBA5.out _⟩, by simp [intOf]; omega⟩
                  · have s0 : ((cAt l k).kind == 1) = false := by simpa using gk
                    have HN2 := hid (HNX.out (fun h => absurd h gk))
                    clear gk
                    go_wp2
                    exact ⟨⟨k + 1, by omega, by go_num, by unfold noDef; rw [← HCC.out]; exact HN2.out, HBA5.out _⟩, by simp [intOf]; omega⟩
                · have hke : k = l.length := by omega
                  subst hke
                  have HNL : Hid (linB l = false) := HW2.out (by
                    have h := HND.out
                    unfold noDef at h
                    rw [← HCC.out] at h
                    exact h)
                  have HFN := hid (hff.out wr HBW.out HNL.out)
                  go_wp2_with (go_at_call 10; (with_reducible refine HFN.out.mono ?_); rintro e w9 ⟨q, n, d, rfl, hb9⟩)
                  go_ret
                  exact ⟨rfl, below_tr hb9 HBW.out⟩
            · have e3 : (cer == 0) = false := by simpa using her
              have e4 : (cer != 0) = true := by simpa using her
              clear her
              go_wp2
              go_ret
              exact ⟨rfl, HBC.out _⟩
      · generalize chkL l = ch at *
        have h1 : (ch == 0) = false := by simpa using hz
        have h2 : (ch != 0) = true := by simpa using hz
        clear hz
        go_wp2_with (go_at_call 11; (with_reducible refine (HC.out _ HB2.out).mono ?_); rintro e w3 ⟨rfl, hb3⟩)
        go_ret
        exact ⟨rfl, below_tr hb3 HB2.out⟩
end Go.Proofs.Ytdkknnmgdghioaa
