/-
  The walk of relax.Check.
-/
import Derived.Test.YtkjiiikcillcfaaW1
namespace Go.Proofs.Ytkjiiikcillcfaa
open Go.RowKit

set_option maxHeartbeats 1000000 in
theorem check_any (p : Option Addr) (c : Nat) (xs : List It) (w : World) (hm : xs.length ≤ 1000000) (hrow : Row w p (itCells xs)) :
    Calls Try.prog 19 #[.slice p xs.length c] w fun e w' => e = .returned (.int .i64 (checkP xs)) ∧ Below w.heap.size w w' := by
  by_cases hlong : 65536 < xs.length
  · have HP : Hid (checkP xs = 3) := by simp [Hid, checkP, hlong]
    go_enter Try.func19, Try.ntmps19
    go_wp2_with fail
    go_ret
    exact ⟨ret_int (by rw [HP.out]), Below.refl _ _⟩
  · have hlen : xs.length ≤ 65536 := by omega
    clear hlong
    go_enter Try.func19, Try.ntmps19
    go_wp2_with fail
    go_loopw [13] (fun i wr => ∃ k : Nat, k ≤ xs.length ∧ i = .int .i64 k ∧ Below w.heap.size w wr ∧ ∀ x ∈ xs.take k, plainP x xs.length = true) (fun i _ => xs.length - (intOf i).toNat)
    case atStart => exact ⟨0, Nat.zero_le _, rfl, Below.refl _ _, by simp⟩
    case round =>
      obtain ⟨k, hk, rfl, hb, hpl⟩ := hrel
      have HPL := hid hpl
      clear hpl
      have hsz := hb.size
      by_cases hlt : k < xs.length
      · have hl7 := itCells_len xs
        obtain ⟨b, off, rfl, _⟩ := hrow.at (by omega)
        obtain ⟨c0, c1, c2, c3, c4, c5, c6⟩ := item_cells (hrow.below hb) k hlt
        have HT := hid (take_succ xs k hlt)
        have HM := hid (List.getElem_mem hlt)
        clear hl7
        obtain ⟨x, hx⟩ : ∃ x, x = xs[k] := ⟨_, rfl⟩
        rw [← hx] at c0 c1 c2 c3 c4 c5 c6 HT HM
        clear hx
        cases hpp : plainP x xs.length with
        | true =>
          go_wp2_with (go_at_call 34; refine (plain_any x _ _ (by omega)).mono ?_; rintro e w1 ⟨rfl, hb1⟩; simp only [hpp])
          go_roundw
          case rel =>
            refine ⟨k + 1, by omega, by go_num, (hb.alloc hsz _).trans (hb1.mono (by simp; omega)), ?_⟩
            intro y hy
            rw [HT.out] at hy
            rcases List.mem_append.1 hy with hy | hy
            · exact HPL.out y hy
            · simp at hy; rw [hy]; exact hpp
          case measure => simp [intOf]; omega
        | false =>
          have HP : Hid (checkP xs = 160) := by
            have : xs.all (fun x => plainP x xs.length) = false := List.all_eq_false.2 ⟨x, HM.out, by simp [hpp]⟩
            simp only [Hid, checkP, this, if_neg (by omega : ¬ 65536 < xs.length)]; rfl
          go_wp2_with (go_at_call 34; refine (plain_any x _ _ (by omega)).mono ?_; rintro e w1 ⟨rfl, hb1⟩; simp only [hpp])
          go_ret
          exact ⟨ret_int (by rw [HP.out]), (hb.alloc hsz _).trans (hb1.mono (by simp; omega))⟩
      · have HA : Hid (∀ x ∈ xs, plainP x xs.length = true) := by
          have := HPL.out
          rw [List.take_of_length_le (by omega)] at this
          exact this
        clear HPL
        have hkx : k = xs.length := by omega
        subst hkx
        have HC : Hid (checkP xs = if 67108864 < total xs then 161 else 0) := by
          have : xs.all (fun x => plainP x xs.length) = true := List.all_eq_true.2 HA.out
          simp only [Hid, checkP, this, if_neg (by omega : ¬ 65536 < xs.length), if_true]
        obtain ⟨w1, rfl⟩ : ∃ w1, w1 = wr := ⟨_, rfl⟩
        go_wp2_with fail
        go_loopw [5, 25] (fun t i wr => ∃ k : Nat, k ≤ xs.length ∧ i = .int .i64 k ∧ Below w.heap.size w wr ∧ t = .int .i64 (total (xs.take k)) ∧ total (xs.take k) ≤ 67108864) (fun _ i _ => xs.length - (intOf i).toNat)
        case atStart => exact ⟨0, Nat.zero_le _, rfl, hb, rfl, by simp [total]⟩
        case round =>
          obtain ⟨k, hk, rfl, hb2, rfl, hle⟩ := hrel
          have hge := total_bd xs.length (xs.take k) (fun x hx => HA.out x (List.mem_of_mem_take hx))
          have hsz2 := hb2.size
          by_cases hlt : k < xs.length
          · have hl7 := itCells_len xs
            obtain ⟨b, off, rfl, _⟩ := hrow.at (by omega)
            obtain ⟨c0, c1, c2, c3, c4, c5, c6⟩ := item_cells (hrow.below hb2) k hlt
            have HT : Hid (total (xs.take (k + 1)) = total (xs.take k) + mostP xs[k]) := by simp only [Hid]; rw [take_succ xs k hlt, total_snoc]
            have hpx := HA.out _ (List.getElem_mem hlt)
            have htt := total_take xs.length xs HA.out (k + 1)
            clear hl7
            obtain ⟨x, hx⟩ : ∃ x, x = xs[k] := ⟨_, rfl⟩
            rw [← hx] at c0 c1 c2 c3 c4 c5 c6 HT hpx
            clear hx
            have hmb := mostP_bd hpx
            obtain ⟨hmb1, hmb2⟩ := hmb
            have HPX := hid hpx
            clear hpx
            obtain ⟨T, hT⟩ : ∃ T, T = total (xs.take k) := ⟨_, rfl⟩
            obtain ⟨T1, hT1⟩ : ∃ T1, T1 = total (xs.take (k + 1)) := ⟨_, rfl⟩
            obtain ⟨m, hm3⟩ : ∃ m, m = mostP x := ⟨_, rfl⟩
            rw [← hT] at hge hle HT ⊢
            rw [← hT1] at HT htt
            rw [← hm3] at HT hmb1 hmb2
            have HM := hid hm3
            have HT1 := hid hT1
            clear hT hT1 hm3
            by_cases hbig : 67108864 < T + m
            · have HP : Hid (checkP xs = 161) := by
                simp only [Hid]; rw [HC.out, if_pos (by have := HT.out; omega)]
              go_wp2_with (go_at_call 35; refine (most_any x _ (fun h => plainP_al HPX.out h)).mono ?_; rw [← HM.out]; rintro e w1 ⟨rfl, hb1⟩)
              go_ret
              exact ⟨ret_int (by rw [HP.out]), (hb2.alloc hsz2 _).trans (hb1.mono (by simp; omega))⟩
            · go_wp2_with (go_at_call 35; refine (most_any x _ (fun h => plainP_al HPX.out h)).mono ?_; rw [← HM.out]; rintro e w1 ⟨rfl, hb1⟩)
              go_roundw
              case rel =>
                exact ⟨k + 1, by omega, by go_num, (hb2.alloc hsz2 _).trans (hb1.mono (by simp; omega)), by rw [← HT1.out, HT.out], by rw [← HT1.out, HT.out]; omega⟩
              case measure => simp [intOf]; omega
          · have hkx : xs.take k = xs := List.take_of_length_le (by omega)
            have HP : Hid (checkP xs = 0) := by
              simp only [Hid]; rw [HC.out, if_neg (by rw [hkx] at hle; omega)]
            clear hkx
            go_wp2_with fail
            go_ret
            exact ⟨ret_int (by rw [HP.out]), hb2⟩
end Go.Proofs.Ytkjiiikcillcfaa
