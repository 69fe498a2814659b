/-
  The walk of the document's Check.
-/
import Derived.Test.YtkjiiikcillcfaaW4
namespace Go.Proofs.Ytkjiiikcillcfaa
open Go.RowKit

theorem total_hi (n : Int) (xs : List It) (h : ∀ x ∈ xs, plainP x n = true) : total xs ≤ 67108864 * xs.length := by
  induction xs with
  | nil => simp [total]
  | cons a l ih =>
    have := mostP_bd (h a (by simp))
    have h2 := ih (fun x hx => h x (by simp [hx]))
    simp [total] at *; omega

set_option maxHeartbeats 1000000 in
theorem refcheck_any (p : Option Addr) (c : Nat) (xs : List It) (w : World) (hm : xs.length ≤ 1000000) (hrow : Row w p (itCells xs)) :
    Calls Try.prog 10 #[.slice p xs.length c] w fun e w' => e = .returned (.int .i64 (checkP xs)) ∧ Below w.heap.size w w' := by
  by_cases hlong : 65536 < xs.length
  · have HP : Hid (checkP xs = 3) := by simp [Hid, checkP, hlong]
    go_enter Try.func10, Try.ntmps10
    go_wp2_with fail
    go_ret
    exact ⟨ret_int (by rw [HP.out]), Below.refl _ _⟩
  · have hlen : xs.length ≤ 65536 := by omega
    clear hlong
    go_enter Try.func10, Try.ntmps10
    go_wp2_with fail
    go_loopw [3, 4] (fun t i wr => ∃ k : Nat, k ≤ xs.length ∧ i = .int .i64 k ∧ t = .int .i64 (total (xs.take k)) ∧ Below w.heap.size w wr ∧ ∀ x ∈ xs.take k, plainP x xs.length = true) (fun _ i _ => xs.length - (intOf i).toNat)
    case atStart => exact ⟨0, Nat.zero_le _, rfl, rfl, Below.refl _ _, by simp⟩
    case round =>
      obtain ⟨k, hk, rfl, rfl, hb, hpl⟩ := hrel
      have HPL := hid hpl
      have ht1 := total_bd xs.length _ hpl
      have ht2 := total_hi xs.length _ hpl
      have ht3 : ((xs.take k).length : Int) ≤ 65536 := by simp; omega
      clear hpl
      have hsz := hb.size
      by_cases hlt : k < xs.length
      · have hl7 := itCells_len xs
        obtain ⟨b, off, rfl, _⟩ := hrow.at (by omega)
        obtain ⟨c0, c1, c2, c3, c4, c5, c6⟩ := item_cells (hrow.below hb) k hlt
        have HT := hid (take_succ xs k hlt)
        have HM := hid (List.getElem_mem hlt)
        clear hl7
        obtain ⟨x, hx⟩ : ∃ x, x = xs[k] := ⟨_, rfl⟩
        rw [← hx] at c0 c1 c2 c3 c4 c5 c6 HT HM
        clear hx
        obtain ⟨T, hT⟩ : ∃ T, T = total (xs.take k) := ⟨_, rfl⟩
        rw [← hT] at ht1 ht2 ⊢
        have HTT := hid hT
        clear hT
        have ht4 : T ≤ 4398046511104 := by omega
        clear ht2 ht3
        cases hpp : plainP x xs.length with
        | true =>
          obtain ⟨hmb1, hmb2⟩ := mostP_bd hpp
          obtain ⟨m, hm3⟩ : ∃ m, m = mostP x := ⟨_, rfl⟩
          rw [← hm3] at hmb1 hmb2
          have HM3 := hid hm3
          clear hm3
          have HO : Hid (∀ w1, Calls Try.prog 30 #[x.val, i64 xs.length] w1 fun e w' => e = .returned (.tuple #[i64 m, .bool true]) ∧ Below w1.heap.size w1 w') := fun w1 => (one_any x xs.length w1).mono fun e w' ⟨⟨k, he, hk⟩, hb⟩ => ⟨by rw [he, hpp, hk hpp, ← HM3.out], hb⟩
          go_wp2_with (go_at_call 30; refine (HO.out _).mono ?_; rintro e w1 ⟨rfl, hb1⟩)
          go_roundw
          case rel =>
            refine ⟨k + 1, by omega, by go_num, ?_, hb.trans (hb1.mono hsz), ?_⟩
            · rw [HT.out, total_snoc, ← HTT.out, ← HM3.out]
            · intro y hy
              rw [HT.out] at hy
              rcases List.mem_append.1 hy with hy | hy
              · exact HPL.out y hy
              · simp at hy; rw [hy]; exact hpp
          case measure => simp [intOf]; omega
        | false =>
          have HP : Hid (checkP xs = 160) := by
            have : xs.all (fun x => plainP x xs.length) = false := List.all_eq_false.2 ⟨x, HM.out, by simp [hpp]⟩
            simp only [Hid, checkP, this, if_neg (by omega : ¬ 65536 < xs.length)]; rfl
          have HO : Hid (∀ w1, Calls Try.prog 30 #[x.val, i64 xs.length] w1 fun e w' => ∃ k, e = .returned (.tuple #[i64 k, .bool false]) ∧ Below w1.heap.size w1 w') := fun w1 => (one_any x xs.length w1).mono fun e w' ⟨⟨k, he, _⟩, hb⟩ => ⟨k, by rw [he, hpp], hb⟩
          go_wp2_with (go_at_call 30; refine (HO.out _).mono ?_; rintro e w1 ⟨kk, rfl, hb1⟩)
          go_ret
          exact ⟨ret_int (by rw [HP.out]), hb.trans (hb1.mono hsz)⟩
      · have hkx : xs.take k = xs := List.take_of_length_le (by omega)
        rw [hkx] at ht1 ht2 HPL ⊢
        clear hkx ht3
        have HC : Hid (checkP xs = if 67108864 < total xs then 161 else 0) := by
          have : xs.all (fun x => plainP x xs.length) = true := List.all_eq_true.2 HPL.out
          simp only [Hid, checkP, this, if_neg (by omega : ¬ 65536 < xs.length), if_true]
        by_cases hbig : 67108864 < total xs
        · have HP : Hid (checkP xs = 161) := by simp only [Hid]; rw [HC.out, if_pos hbig]
          go_wp2_with fail
          go_ret
          exact ⟨ret_int (by rw [HP.out]), hb⟩
        · have HP : Hid (checkP xs = 0) := by simp only [Hid]; rw [HC.out, if_neg hbig]
          go_wp2_with fail
          go_ret
          exact ⟨ret_int (by rw [HP.out]), hb⟩
end Go.Proofs.Ytkjiiikcillcfaa
