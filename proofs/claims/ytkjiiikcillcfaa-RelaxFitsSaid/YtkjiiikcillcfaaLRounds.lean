/-
  The walk of RelaxRounds.
-/
import Derived.Test.YtkjiiikcillcfaaEqF
import Derived.Test.YtkjiiikcillcfaaOpenI
namespace Go.Proofs.Ytkjiiikcillcfaa
open Go.RowKit

theorem BoolsList.rows {w : World} {base : Nat} {v : Value} {bss : List (List Bool)} (h : BoolsList w base v bss) : ∃ (ys : List (Value × List Bool)) (p : Option Addr) (c : Nat), v = .slice p ys.length c ∧ ys.map (·.2) = bss ∧ Row w p (ys.map (·.1)) ∧ ∀ y ∈ ys, RowB w y := by
  obtain ⟨ys, h1, h2, h3⟩ := h
  obtain ⟨p, c, rfl, hr⟩ := own_shape h2
  exact ⟨ys, p, c, rfl, h1, hr, fun y hy => by obtain ⟨p, c, e, hr, _⟩ := h3 y hy; exact ⟨p, c, e, hr⟩⟩

set_option maxHeartbeats 2000000 in
theorem rounds_law (w : World) (p : Option Addr) (c : Nat) (xs : List It) (hp : p = none → c = 0) (hrow : Row w p (itCells xs)) (q : Option Addr) (d : Nat) (ls : List Bool) (hrow2 : Row w q (bools ls)) :
    Calls Try.prog 7 #[.slice p xs.length c, .slice q ls.length d] w fun e w' => e = .returned (.bool true) ∧ Below w.heap.size w w' := by
  have HLV := hid (live_any w)
  rcases Classical.em (xs.length ≤ 300) with hx | hx
  · have HF : Hid (∀ w1, Calls Try.prog 9 #[.slice p xs.length c] w1 fun e w' => e = .returned (.bool true) ∧ w1 = w') := fun w1 => by
      have := few_any p c xs w1
      rw [decide_eq_true hx] at this
      exact this
    rcases Classical.em (ls.length ≤ 400) with hl | hl
    · have hm1 : xs.length ≤ 1000000 := by omega
      have hm2 : ls.length ≤ 1000000 := by omega
      have hgt : decide (400 < (ls.length : Int)) = false := by rw [decide_eq_false_iff_not]; omega
      have H24 := hid (fun w1 (hb : Below w.heap.size w w1) => Round_any p c xs q d ls w1 hm1 hm2 (hrow.below hb) (hrow2.below hb))
      have H25 := hid (fun w1 (hb : Below w.heap.size w w1) => refRound_any p c xs q d ls w1 hm1 (hrow.below hb) (hrow2.below hb))
      have H13 := hid (fun w1 (hb : Below w.heap.size w w1) => Relax_any p c xs w1 hm1 hp (hrow.below hb))
      have H27 := hid (fun w1 (hb : Below w.heap.size w w1) => refRelax_any p c xs w1 hm1 (hrow.below hb))
      have H23 := hid (fun w1 (hb : Below w.heap.size w w1) => lrounds_any p c xs w1 hm1 hp (hrow.below hb))
      have H29 := hid (fun w1 (hb : Below w.heap.size w w1) => refRounds_any p c xs w1 hm1 (hrow.below hb))
      have HRL : Hid ((roundsP xs).length ≤ 1000000) := by
        by_cases hck : checkP xs = 0
        · have := (rounds_pos hck).2; simp only [Hid]; omega
        · simp [Hid, roundsP, hck]
      have HRS : Hid (∀ l ∈ roundsP xs, l.length ≤ 1000000) := fun l hl => by rw [rounds_lens xs l hl]; exact hm1
      have HL1 : Hid ((rdRes xs ls).length ≤ 1000000000) := by
        simp only [Hid, rdRes]
        split
        · rw [roundP_len]; omega
        · simp
      have HL2 : Hid ((relaxRes xs).length ≤ 1000000000) := by
        simp only [Hid, relaxRes]
        rw [List.getLastD_eq_getLast?]
        cases hg : (roundsP xs).getLast? with
        | none => simp
        | some l => have := HRS.out l (List.mem_of_getLast? hg); simp; omega
      unfold RdPost at H24 H25
      unfold RelaxPost at H13 H27
      obtain ⟨E, hE⟩ : ∃ E, E = offErr xs ls := ⟨_, rfl⟩
      obtain ⟨M, hM⟩ : ∃ M, M = rdMore xs ls := ⟨_, rfl⟩
      obtain ⟨C, hC⟩ : ∃ C, C = checkP xs := ⟨_, rfl⟩
      obtain ⟨R, hR⟩ : ∃ R, R = relaxN xs := ⟨_, rfl⟩
      obtain ⟨A, hA⟩ : ∃ A, A = rdRes xs ls := ⟨_, rfl⟩
      obtain ⟨B, hB⟩ : ∃ B, B = relaxRes xs := ⟨_, rfl⟩
      obtain ⟨S, hS⟩ : ∃ S, S = roundsP xs := ⟨_, rfl⟩
      rw [← hE, ← hM, ← hA] at H24 H25
      rw [← hC, ← hR, ← hB] at H13 H27
      rw [← hA] at HL1
      rw [← hB] at HL2
      rw [← hS] at H23 H29 HRL HRS
      clear hE hM hC hR hA hB hS hl hx hm1 hm2
      have HEQ := hid (fun (p q : Option Addr) (c d : Nat) (l : List Bool) (w1 : World) (h1 : Row w1 p (bools l)) (h2 : Row w1 q (bools l)) (h3 : l.length ≤ 1000000000) => eqBools_any p q c d l l w1 h1 h2 h3 h3)
      simp only [decide_true] at HEQ
      have HEF := hid (fun (ys zs : List (Value × List Bool)) (p q : Option Addr) (c d : Nat) (w1 : World) (h1 : Row w1 p (ys.map (·.1))) (h2 : Row w1 q (zs.map (·.1))) (h3 : ∀ y ∈ ys, RowB w1 y) (h4 : ∀ y ∈ zs, RowB w1 y) (e1 : ys.map (·.2) = S) (e2 : zs.map (·.2) = S) =>
        eqFunc_any p q c d ys zs w1 h1 h2 h3 h4 (e1.trans e2.symm) (by have := congrArg List.length e1; simp at this; have := HRL.out; omega) (fun y hy => HRS.out _ (by rw [← e1]; exact List.mem_map_of_mem hy)))
      have hMM : ((M : Int) != (M : Int)) = false := by simp
      have hEE : (E != E) = false := by simp
      have hRR : ((R : Int) == (R : Int)) = true := by simp
      have hCC : (C == C) = true := by simp
      go_enter Try.func7, Try.ntmps7
      go_wp2_with (first
        | (go_at_call 8; refine HLV.out.mono ?_; rintro e w1 ⟨rfl, hb1⟩)
        | (go_at_call 9; refine (HF.out _).mono ?_; rintro e w2 ⟨rfl, rfl⟩)
        | (go_at_call 24; refine (H24.out _ hb1).mono ?_; rintro e w3 ⟨v3, rfl, ho3, hb3⟩; have hbw3 := hb1.trans (hb3.mono hb1.size))
        | (go_at_call 25; refine (H25.out _ hbw3).mono ?_; rintro e w4 ⟨v4, rfl, ho4, hb4⟩; have hbw4 := hbw3.trans (hb4.mono hbw3.size); have ho34 := own_below ho3 hb4; obtain ⟨p3, c3, rfl, hr3⟩ := own_shape ho34; obtain ⟨p4, c4, rfl, hr4⟩ := own_shape ho4)
        | (go_at_call 13; refine (H13.out _ hbw5).mono ?_; rintro e w6 ⟨p6, c6, rfl, hr6, hb6⟩; have hbw6 := hbw5.trans (hb6.mono hbw5.size))
        | (go_at_call 27; refine (H27.out _ hbw6).mono ?_; rintro e w7 ⟨p7, c7, rfl, hr7, hb7⟩; have hbw7 := hbw6.trans (hb7.mono hbw6.size); have hr67 := hr6.below hb7)
        | (go_at_call 26; refine (HEQ.out _ _ _ _ _ _ hr67 hr7 HL2.out).mono ?_; rintro e w8 ⟨rfl, hb8⟩; have hbw8 := hbw7.trans (hb8.mono hbw7.size))
        | (go_at_call 26; refine (HEQ.out _ _ _ _ _ _ hr3 hr4 HL1.out).mono ?_; rintro e w5 ⟨rfl, hb5⟩; have hbw5 := hbw4.trans (hb5.mono hbw4.size))
        | (go_at_call 23; refine (H23.out _ hbw8).mono ?_; rintro e w9 ⟨v9, rfl, hl9, hb9⟩; have hbw9 := hbw8.trans (hb9.mono hbw8.size); obtain ⟨y9, p9, c9, rfl, e9, r9, a9⟩ := hl9.rows; have E9 := hid e9; clear e9)
        | (go_at_call 29; refine (H29.out _ hbw9).mono ?_; rintro e wa ⟨va, rfl, hla, hba⟩; have hbwa := hbw9.trans (hba.mono hbw9.size); obtain ⟨ya, pa, ca, rfl, ea, ra, aa⟩ := hla.rows; have EA := hid ea; clear ea; have r9' := r9.below hba; have a9' := (fun y hy => (a9 y hy).below hba))
        | (go_at_call 28; refine (HEF.out _ _ _ _ _ _ _ r9' ra a9' aa E9.out EA.out).mono ?_; rintro e wb ⟨rfl, hbb⟩; have hbwb := hbwa.trans (hbb.mono hbwa.size)))
      go_ret
      exact ⟨ret_bool rfl, hbwb⟩
    · have hgt : decide (400 < (ls.length : Int)) = true := by rw [decide_eq_true_iff]; omega
      clear hl
      go_enter Try.func7, Try.ntmps7
      go_wp2_with (first
        | (go_at_call 8; refine HLV.out.mono ?_; rintro e w1 ⟨rfl, hb1⟩)
        | (go_at_call 9; refine (HF.out _).mono ?_; rintro e w2 ⟨rfl, rfl⟩))
      go_ret
      exact ⟨ret_bool rfl, hb1⟩
  · have HF : Hid (∀ w1, Calls Try.prog 9 #[.slice p xs.length c] w1 fun e w' => e = .returned (.bool false) ∧ w1 = w') := fun w1 => by
      have := few_any p c xs w1
      rw [decide_eq_false hx] at this
      exact this
    clear hx
    go_enter Try.func7, Try.ntmps7
    go_wp2_with (first
      | (go_at_call 8; refine HLV.out.mono ?_; rintro e w1 ⟨rfl, hb1⟩)
      | (go_at_call 9; refine (HF.out _).mono ?_; rintro e w2 ⟨rfl, rfl⟩))
    go_ret
    exact ⟨ret_bool rfl, hb1⟩

theorem lrounds_walk (w : World) (p : Option Addr) (c : Nat) (xs : List It) (_ : xs.length ≤ c) (_ : c ≤ maxLen) (hp : p = none → c = 0) (_ : ∀ x ∈ xs, x.ok) (hrow : Row w p (itCells xs))
    (q : Option Addr) (d : Nat) (ls : List Bool) (_ : ls.length ≤ d) (_ : d ≤ maxLen) (_ : q = none → d = 0) (hrow2 : Row w q (bools ls)) :
    Calls Try.prog 7 #[.slice p xs.length c, .slice q ls.length d] w fun e w' => e = .returned (.bool true) ∧ Below w.heap.size w w' :=
  rounds_law w p c xs hp hrow q d ls hrow2
end Go.Proofs.Ytkjiiikcillcfaa
