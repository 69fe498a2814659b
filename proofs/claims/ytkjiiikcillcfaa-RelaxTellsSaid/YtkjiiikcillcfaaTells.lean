/-
  The walk of RelaxTells.
-/
import Derived.Test.YtkjiiikcillcfaaLaw
import Derived.Test.YtkjiiikcillcfaaOpenI
namespace Go.Proofs.Ytkjiiikcillcfaa
open Go.RowKit

set_option maxHeartbeats 2000000 in
theorem tells_any (w : World) (p : Option Addr) (c : Nat) (xs : List It) (hrow : Row w p (itCells xs)) (q : Option Addr) (d : Nat) (ls : List Bool) (hrow2 : Row w q (bools ls)) (n : Int) (hn : inI64 n) :
    Calls Try.prog 5 #[.slice p xs.length c, .slice q ls.length d, i64 n] w fun e w' => e = .returned (.bool true) ∧ Below w.heap.size w w' := by
  have HLV := hid (live_any w)
  rcases Classical.em (xs.length ≤ 300) with hx | hx
  · have HF : Hid (∀ w1, Calls Try.prog 9 #[.slice p xs.length c] w1 fun e w' => e = .returned (.bool true) ∧ w1 = w') := fun w1 => by
      have := few_any p c xs w1
      rw [decide_eq_true hx] at this
      exact this
    rcases Classical.em (ls.length ≤ 400) with hl | hl
    · have hm1 : xs.length ≤ 1000000 := by omega
      have hm2 : ls.length ≤ 1000000 := by omega
      have hgt : decide (400 < (ls.length : Int)) = false := by rw [decide_eq_false_iff_not]; omega
      have H16 := hid (fun w1 (hb : Below w.heap.size w w1) => Offsets_any p c xs q d ls w1 hm1 hm2 (hrow.below hb) (hrow2.below hb))
      have H17 := hid (fun w1 (hb : Below w.heap.size w w1) => refOffsets_any p c xs q d ls w1 hm1 hm2 (hrow.below hb) (hrow2.below hb))
      have H19 := hid (fun w1 (hb : Below w.heap.size w w1) => check_any p c xs w1 hm1 (hrow.below hb))
      have H10 := hid (fun w1 (hb : Below w.heap.size w w1) => refcheck_any p c xs w1 hm1 (hrow.below hb))
      have H20 := hid (fun w1 (hb : Below w.heap.size w w1) => Reaches_any p c xs q d ls n w1 hm1 hm2 (hrow.below hb) (hrow2.below hb))
      have H21 := hid (fun w1 (hb : Below w.heap.size w w1) => refReaches_any p c xs q d ls n w1 hm1 hm2 (hrow.below hb) (hrow2.below hb))
      have H22 := hid (fun w1 (hb : Below w.heap.size w w1) => Fits_any p c xs q d ls w1 hm1 hm2 (hrow.below hb) (hrow2.below hb))
      have H12 := hid (fun w1 (hb : Below w.heap.size w w1) => refFits_any p c xs q d ls w1 hm1 hm2 (hrow.below hb) (hrow2.below hb))
      have HOL : Hid ((offRes xs ls).length ≤ 1000000000) := by
        simp only [Hid, offRes]
        split
        · rw [offs_len]; omega
        · simp
      unfold OffPost at H16 H17
      obtain ⟨E, hE⟩ : ∃ E, E = offErr xs ls := ⟨_, rfl⟩
      obtain ⟨C, hC⟩ : ∃ C, C = checkP xs := ⟨_, rfl⟩
      obtain ⟨R, hR⟩ : ∃ R, R = reachesP xs ls n := ⟨_, rfl⟩
      obtain ⟨Fi, hFi⟩ : ∃ Fi, Fi = fitsP xs ls := ⟨_, rfl⟩
      rw [← hE] at H16 H17
      rw [← hC] at H19 H10
      rw [← hR] at H20 H21
      rw [← hFi] at H22 H12
      clear hE hC hR hFi hl hx
      obtain ⟨A, hA⟩ : ∃ A, A = offRes xs ls := ⟨_, rfl⟩
      rw [← hA] at H16 H17 HOL
      clear hA
      have HEQ := hid (fun (p q : Option Addr) (c d : Nat) (w1 : World) h1 h2 => eqInts_any p q c d A A w1 h1 h2 HOL.out HOL.out)
      simp only [decide_true] at HEQ
      have hEE : (E == E) = true := by simp
      have hCC : (C == C) = true := by simp
      have hRR : (R == R) = true := by simp
      have hFF : (Fi == Fi) = true := by simp
      go_enter Try.func5, Try.ntmps5
      go_wp2_with (first
        | (go_at_call 8; refine HLV.out.mono ?_; rintro e w1 ⟨rfl, hb1⟩)
        | (go_at_call 9; refine (HF.out _).mono ?_; rintro e w2 ⟨rfl, rfl⟩)
        | (go_at_call 16; refine (H16.out _ hb1).mono ?_; rintro e w3 ⟨v3, rfl, ho3, hb3⟩; have hbw3 := hb1.trans (hb3.mono hb1.size))
        | (go_at_call 17; refine (H17.out _ hbw3).mono ?_; rintro e w4 ⟨v4, rfl, ho4, hb4⟩; have hbw4 := hbw3.trans (hb4.mono hbw3.size); have ho34 := own_below ho3 hb4; obtain ⟨p3, c3, rfl, hr3⟩ := own_shape ho34; obtain ⟨p4, c4, rfl, hr4⟩ := own_shape ho4)
        | (go_at_call 18; refine (HEQ.out _ _ _ _ _ hr3 hr4).mono ?_; rintro e w5 ⟨rfl, hb5⟩; have hbw5 := hbw4.trans (hb5.mono hbw4.size))
        | (go_at_call 19; refine (H19.out _ hbw5).mono ?_; rintro e w6 ⟨rfl, hb6⟩; have hbw6 := hbw5.trans (hb6.mono hbw5.size))
        | (go_at_call 10; refine (H10.out _ hbw6).mono ?_; rintro e w7 ⟨rfl, hb7⟩; have hbw7 := hbw6.trans (hb7.mono hbw6.size))
        | (go_at_call 20; refine (H20.out _ hbw7).mono ?_; rintro e w8 ⟨rfl, hb8⟩; have hbw8 := hbw7.trans (hb8.mono hbw7.size))
        | (go_at_call 21; refine (H21.out _ hbw8).mono ?_; rintro e w9 ⟨rfl, hb9⟩; have hbw9 := hbw8.trans (hb9.mono hbw8.size))
        | (go_at_call 22; refine (H22.out _ hbw9).mono ?_; rintro e wa ⟨rfl, hba⟩; have hbwa := hbw9.trans (hba.mono hbw9.size))
        | (go_at_call 12; refine (H12.out _ hbwa).mono ?_; rintro e wb ⟨rfl, hbb⟩; have hbwb := hbwa.trans (hbb.mono hbwa.size)))
      go_ret
      exact ⟨ret_bool rfl, hbwb⟩
    · have hgt : decide (400 < (ls.length : Int)) = true := by rw [decide_eq_true_iff]; omega
      clear hl
      go_enter Try.func5, Try.ntmps5
      go_wp2_with (first
        | (go_at_call 8; refine HLV.out.mono ?_; rintro e w1 ⟨rfl, hb1⟩)
        | (go_at_call 9; refine (HF.out _).mono ?_; rintro e w2 ⟨rfl, rfl⟩))
      go_ret
      exact ⟨ret_bool rfl, hb1⟩
  · have HF : Hid (∀ w1, Calls Try.prog 9 #[.slice p xs.length c] w1 fun e w' => e = .returned (.bool false) ∧ w1 = w') := fun w1 => by
      have := few_any p c xs w1
      rw [decide_eq_false hx] at this
      exact this
    clear hx
    go_enter Try.func5, Try.ntmps5
    go_wp2_with (first
      | (go_at_call 8; refine HLV.out.mono ?_; rintro e w1 ⟨rfl, hb1⟩)
      | (go_at_call 9; refine (HF.out _).mono ?_; rintro e w2 ⟨rfl, rfl⟩))
    go_ret
    exact ⟨ret_bool rfl, hb1⟩

theorem tells_walk (w : World) (p : Option Addr) (c : Nat) (xs : List It) (_ : xs.length ≤ c) (_ : c ≤ maxLen) (_ : p = none → c = 0) (_ : ∀ x ∈ xs, x.ok) (hrow : Row w p (itCells xs))
    (q : Option Addr) (d : Nat) (ls : List Bool) (_ : ls.length ≤ d) (_ : d ≤ maxLen) (_ : q = none → d = 0) (hrow2 : Row w q (bools ls)) (n : Int) (hn : (Lit.int .i64 n).wf = true) :
    Calls Try.prog 5 #[.slice p xs.length c, .slice q ls.length d, i64 n] w fun e w' => e = .returned (.bool true) ∧ Below w.heap.size w w' :=
  tells_any w p c xs hrow q d ls hrow2 n (wf_i64 hn)
end Go.Proofs.Ytkjiiikcillcfaa
