/-
  The walk of the law's own plain: nothing is aligned, each branch reaches itself.
-/
import Derived.Test.YtkjiiikcillcfaaLeast
import Derived.Test.YtkjiiikcillcfaaOpenI
namespace Go.Proofs.Ytkjiiikcillcfaa
open Go.RowKit

set_option maxHeartbeats 2000000 in
theorem flat_any (p : Option Addr) (c : Nat) (xs : List It) (w : World) (hm : xs.length ≤ 1000000) (hrow : Row w p (itCells xs)) :
    Calls Try.prog 11 #[.slice p xs.length c] w fun e w' => e = .returned (.bool (flatAll xs)) ∧ Below w.heap.size w w' := by
  go_enter Try.func11, Try.ntmps11
  go_wp2_with fail
  go_loopw [7] (fun i wr => ∃ k : Nat, k ≤ xs.length ∧ i = .int .i64 k ∧ Below w.heap.size w wr ∧ ∀ x ∈ xs.take k, flatP x = true) (fun i _ => xs.length - (intOf i).toNat)
  case atStart => exact ⟨0, Nat.zero_le _, rfl, Below.refl _ _, by simp⟩
  case round =>
    obtain ⟨k, hk, rfl, hb, hpl⟩ := hrel
    have HPL := hid hpl
    clear hpl
    have hsz := hb.size
    by_cases hlt : k < xs.length
    · have hl7 := itCells_len xs
      obtain ⟨b, off, rfl, _⟩ := hrow.at (by omega)
      obtain ⟨c0, c1, c2, c3, c4, c5, c6⟩ := item_cells (hrow.below hb) k hlt
      have HT := hid (take_succ xs k hlt)
      have HM := hid (List.getElem_mem hlt)
      clear hl7
      obtain ⟨x, hx⟩ : ∃ x, x = xs[k] := ⟨_, rfl⟩
      rw [← hx] at c0 c1 c2 c3 c4 c5 c6 HT HM
      clear hx
      have HOK : Hid (flatP x = true → ∀ y ∈ xs.take (k + 1), flatP y = true) := fun hpp y hy => by
        rw [HT.out] at hy
        rcases List.mem_append.1 hy with hy | hy
        · exact HPL.out y hy
        · simp at hy; rw [hy]; exact hpp
      have HNO : Hid (flatP x = false → flatAll xs = false) := fun hpp => by
        rw [flatAll, List.all_eq_false]
        exact ⟨x, HM.out, by simp [hpp]⟩
      have hbl := hb.alloc hsz (.cells #[i64 x.kind, i64 x.size, i64 x.al, i64 x.to, i64 x.add, i64 x.lo, i64 x.hi] 34)
      rcases Classical.em (x.kind = 2) with h2 | h2
      · have HNO := hid (HNO.out (by simp [flatP, h2]))
        have e2 : (x.kind == 2) = true := by simpa using h2
        clear h2
        go_wp2
        go_ret
        exact ⟨ret_bool (by rw [HNO.out]), hbl⟩
      · have e2 : (x.kind == 2) = false := by simpa using h2
        rcases Classical.em (x.kind = 3) with h3 | h3
        · have e3 : (x.kind == 3) = true := by simpa using h3
          by_cases hlo : 0 < x.lo
          · have HNO := hid (HNO.out (by simp [flatP, h3, hlo]))
            have g1 : decide (0 < x.lo) = true := by simpa using hlo
            clear h2 h3 hlo
            go_wp2
            go_ret
            exact ⟨ret_bool (by rw [HNO.out]), hbl⟩
          · have g1 : decide (0 < x.lo) = false := by simpa using hlo
            by_cases hhi : x.hi < 0
            · have HNO := hid (HNO.out (by simp [flatP, h3, hhi]))
              have g2 : decide (x.hi < 0) = true := by simpa using hhi
              clear h2 h3 hlo hhi
              go_wp2
              go_ret
              exact ⟨ret_bool (by rw [HNO.out]), hbl⟩
            · have g2 : decide (x.hi < 0) = false := by simpa using hhi
              by_cases ha : x.add = 0
              · have HOK := hid (HOK.out (by simp [flatP, h3, hlo, hhi, ha]))
                have g3 : (x.add != 0) = false := by simpa using ha
                clear h2 h3 hlo hhi ha
                go_wp2
                go_roundw
                case rel => exact ⟨k + 1, by omega, by go_num, hbl, HOK.out⟩
                case measure => simp [intOf]; omega
              · have HNO := hid (HNO.out (by simp [flatP, h3, ha]))
                have g3 : (x.add != 0) = true := by simpa using ha
                clear h2 h3 hlo hhi ha
                go_wp2
                go_ret
                exact ⟨ret_bool (by rw [HNO.out]), hbl⟩
        · have e3 : (x.kind == 3) = false := by simpa using h3
          have HOK := hid (HOK.out (by simp [flatP, h2, h3]))
          clear h2 h3
          go_wp2
          go_roundw
          case rel => exact ⟨k + 1, by omega, by go_num, hbl, HOK.out⟩
          case measure => simp [intOf]; omega
    · have hkx : k = xs.length := by omega
      have HALL : Hid (flatAll xs = true) := by
        rw [Hid, flatAll, List.all_eq_true]
        intro x hx
        exact HPL.out x (by rw [hkx, List.take_length]; exact hx)
      subst hkx
      go_wp2
      go_ret
      exact ⟨ret_bool (by rw [HALL.out]), hb⟩

set_option maxHeartbeats 2000000 in
theorem least_law (w : World) (p : Option Addr) (c : Nat) (xs : List It) (hp : p = none → c = 0) (hrow : Row w p (itCells xs)) (q : Option Addr) (d : Nat) (ls : List Bool) (hrow2 : Row w q (bools ls)) :
    Calls Try.prog 3 #[.slice p xs.length c, .slice q ls.length d] w fun e w' => e = .returned (.bool true) ∧ Below w.heap.size w w' := by
  have HLV := hid (live_any w)
  rcases Classical.em (xs.length ≤ 300) with hx | hx
  · have HF : Hid (∀ w1, Calls Try.prog 9 #[.slice p xs.length c] w1 fun e w' => e = .returned (.bool true) ∧ w1 = w') := fun w1 => by
      have := few_any p c xs w1
      rw [decide_eq_true hx] at this
      exact this
    have hm1 : xs.length ≤ 1000000 := by omega
    have H10 := hid (fun w1 (hb : Below w.heap.size w w1) => refcheck_any p c xs w1 hm1 (hrow.below hb))
    rcases Classical.em (checkP xs = 0) with hck | hck
    · rw [hck] at H10
      have H11 := hid (fun w1 (hb : Below w.heap.size w w1) => flat_any p c xs w1 hm1 (hrow.below hb))
      cases hfl : flatAll xs with
      | false =>
        rw [hfl] at H11
        clear hfl hck hx
        go_enter Try.func3, Try.ntmps3
        go_wp2_with (first
          | (go_at_call 8; refine HLV.out.mono ?_; rintro e w1 ⟨rfl, hb1⟩)
          | (go_at_call 9; refine (HF.out _).mono ?_; rintro e w2 ⟨rfl, rfl⟩)
          | (go_at_call 10; refine (H10.out _ hb1).mono ?_; rintro e w3 ⟨rfl, hb3⟩; have hbw3 := hb1.trans (hb3.mono hb1.size))
          | (go_at_call 11; refine (H11.out _ hbw3).mono ?_; rintro e w4 ⟨rfl, hb4⟩; have hbw4 := hbw3.trans (hb4.mono hbw3.size)))
        go_ret
        exact ⟨ret_bool rfl, hbw4⟩
      | true =>
        rw [hfl] at H11
        have H12 := hid (fun w1 (hb : Below w.heap.size w w1) => refFits_any p c xs q d ls w1 hm1 (hrow.below hb) (hrow2.below hb))
        cases hft : fitsP xs ls with
        | false =>
          rw [hft] at H12
          clear hft hfl hck hx
          go_enter Try.func3, Try.ntmps3
          go_wp2_with (first
            | (go_at_call 8; refine HLV.out.mono ?_; rintro e w1 ⟨rfl, hb1⟩)
            | (go_at_call 9; refine (HF.out _).mono ?_; rintro e w2 ⟨rfl, rfl⟩)
            | (go_at_call 10; refine (H10.out _ hb1).mono ?_; rintro e w3 ⟨rfl, hb3⟩; have hbw3 := hb1.trans (hb3.mono hb1.size))
            | (go_at_call 11; refine (H11.out _ hbw3).mono ?_; rintro e w4 ⟨rfl, hb4⟩; have hbw4 := hbw3.trans (hb4.mono hbw3.size))
            | (go_at_call 12; refine (H12.out _ hbw4).mono ?_; rintro e w5 ⟨rfl, hb5⟩; have hbw5 := hbw4.trans (hb5.mono hbw4.size)))
          go_ret
          exact ⟨ret_bool rfl, hbw5⟩
        | true =>
          rw [hft] at H12
          simp only [fitsP, Bool.and_eq_true, decide_eq_true_eq] at hft
          have hlen := (offErr_ok hft.1).2
          have HALL : Hid (allP (relaxRes xs) ls = true) := relax_least hck (Over.refl xs) hfl hlen hft.2
          have HRL := hid (relax_fit hck).1.len
          have HLEN := hid hlen
          have H13 := hid (fun w1 (hb : Below w.heap.size w w1) => Relax_any p c xs w1 hm1 hp (hrow.below hb))
          unfold RelaxPost at H13
          rw [hck] at H13
          clear hft hlen hfl hck
          obtain ⟨A, hA⟩ : ∃ A, A = relaxRes xs := ⟨_, rfl⟩
          rw [← hA] at HALL HRL H13
          clear hA
          have H14 := hid (fun (p' : Option Addr) (c' : Nat) w1 (hb : Below w.heap.size w w1) (h1 : Row w1 p' (bools A)) => all_any p' q c' d A ls w1 h1 (hrow2.below hb) (by rw [HRL.out]; omega) (by rw [HLEN.out]; omega))
          rw [HALL.out] at H14
          clear hx
          go_enter Try.func3, Try.ntmps3
          go_wp2_with (first
            | (go_at_call 8; refine HLV.out.mono ?_; rintro e w1 ⟨rfl, hb1⟩)
            | (go_at_call 9; refine (HF.out _).mono ?_; rintro e w2 ⟨rfl, rfl⟩)
            | (go_at_call 10; refine (H10.out _ hb1).mono ?_; rintro e w3 ⟨rfl, hb3⟩; have hbw3 := hb1.trans (hb3.mono hb1.size))
            | (go_at_call 11; refine (H11.out _ hbw3).mono ?_; rintro e w4 ⟨rfl, hb4⟩; have hbw4 := hbw3.trans (hb4.mono hbw3.size))
            | (go_at_call 12; refine (H12.out _ hbw4).mono ?_; rintro e w5 ⟨rfl, hb5⟩; have hbw5 := hbw4.trans (hb5.mono hbw4.size))
            | (go_at_call 13; refine (H13.out _ hbw5).mono ?_; rintro e w6 ⟨p6, c6, rfl, hr6, hb6⟩; have hbw6 := hbw5.trans (hb6.mono hbw5.size))
            | (go_at_call 14; refine (H14.out _ _ _ hbw6 hr6).mono ?_; rintro e w7 ⟨rfl, rfl⟩))
          go_ret
          exact ⟨ret_bool rfl, hbw6⟩
    · obtain ⟨E, hE⟩ : ∃ E, E = checkP xs := ⟨_, rfl⟩
      rw [← hE] at H10 hck
      have hne : (E != 0) = true := by simpa using hck
      clear hE hck hx
      go_enter Try.func3, Try.ntmps3
      go_wp2_with (first
        | (go_at_call 8; refine HLV.out.mono ?_; rintro e w1 ⟨rfl, hb1⟩)
        | (go_at_call 9; refine (HF.out _).mono ?_; rintro e w2 ⟨rfl, rfl⟩)
        | (go_at_call 10; refine (H10.out _ hb1).mono ?_; rintro e w3 ⟨rfl, hb3⟩; have hbw3 := hb1.trans (hb3.mono hb1.size)))
      go_ret
      exact ⟨ret_bool rfl, hbw3⟩
  · have HF : Hid (∀ w1, Calls Try.prog 9 #[.slice p xs.length c] w1 fun e w' => e = .returned (.bool false) ∧ w1 = w') := fun w1 => by
      have := few_any p c xs w1
      rw [decide_eq_false hx] at this
      exact this
    clear hx
    go_enter Try.func3, Try.ntmps3
    go_wp2_with (first
      | (go_at_call 8; refine HLV.out.mono ?_; rintro e w1 ⟨rfl, hb1⟩)
      | (go_at_call 9; refine (HF.out _).mono ?_; rintro e w2 ⟨rfl, rfl⟩))
    go_ret
    exact ⟨ret_bool rfl, hb1⟩

theorem least_walk (w : World) (p : Option Addr) (c : Nat) (xs : List It) (_ : xs.length ≤ c) (_ : c ≤ maxLen) (hp : p = none → c = 0) (_ : ∀ x ∈ xs, x.ok) (hrow : Row w p (itCells xs))
    (q : Option Addr) (d : Nat) (ls : List Bool) (_ : ls.length ≤ d) (_ : d ≤ maxLen) (_ : q = none → d = 0) (hrow2 : Row w q (bools ls)) :
    Calls Try.prog 3 #[.slice p xs.length c, .slice q ls.length d] w fun e w' => e = .returned (.bool true) ∧ Below w.heap.size w w' :=
  least_law w p c xs hp hrow q d ls hrow2
end Go.Proofs.Ytkjiiikcillcfaa
