/-
  DequeNone: a nil deque, and one that no call made.
-/
import Derived.Test.YtpgdpddmgljpmaaD16
import Derived.Test.YtpgdpddmgljpmaaChecked
import Derived.Test.YtpgdpddmgljpmaaRows
namespace Go.Proofs.Ytpgdpddmgljpmaa
open Go.RowKit
variable {w w' : World}

theorem done_nil (n : Int) : Calls Try.prog 16 #[.pointer none, .int .i64 n] w fun e w' => e = .returned (.bool true) ∧ ∃ q, w' = w.drewN q := by
  go_enter Try.func16, Try.ntmps16
  go_wp2_with (go_at_call 37; refine (hand_nil n _).mono ?_; rintro e w2 ⟨rfl, rfl⟩)
  go_quiet (fail)
  go_wp2
  go_ret
  exact ⟨rfl, _, rfl⟩
theorem step_nil (n : Int) : Calls Try.prog 15 #[.pointer none, .int .i64 n] w fun e w' => e = .returned (.tuple #[]) ∧ ∃ q, w' = w.drewN q := by
  go_enter Try.func15, Try.ntmps15
  go_wp2_with (go_at_call 16; refine (done_nil n).mono ?_; rintro e w2 ⟨rfl, q, rfl⟩)
  refine bodyPost_ret (results_none rfl _ _ _) rfl ?_
  exact ⟨rfl, _, rfl⟩
theorem left_nil : Calls Try.prog 18 #[.pointer none] w fun e w' => e = .returned (.slice none 0 0) ∧ w' = w := by
  go_enter Try.func18, Try.ntmps18
  go_wp2
  go_ret
  exact ⟨rfl, rfl⟩
/-- A deque's block that no call made. -/
def Zero (w : World) (d : Nat) : Prop := w.heap[d]? = some (.cells #[.int .i64 0, .int .i64 0, .slice none 0 0, .int .i64 0, .slice none 0 0] 57)
theorem Zero.cell {d : Nat} (h : Zero w d) : w.cell? ⟨d, 0, none⟩ = some (.int .i64 0) ∧ w.cell? ⟨d, 1, none⟩ = some (.int .i64 0) ∧ w.cell? ⟨d, 3, none⟩ = some (.int .i64 0) ∧ w.cell? ⟨d, 4, none⟩ = some (.slice none 0 0) :=
  ⟨cell_of_row w d 0 _ _ _ h, cell_of_row w d 1 _ _ _ h, cell_of_row w d 3 _ _ _ h, cell_of_row w d 4 _ _ _ h⟩
theorem hand_zero {d : Nat} (h : Zero w d) (n : Int) : Calls Try.prog 37 #[.pointer (some ⟨d, 0, none⟩), .int .i64 n] w fun e w' => e = .returned (.pointer none) ∧ w' = w := by
  obtain ⟨c0, c1, c3, c4⟩ := h.cell
  by_cases hn : n < 0
  · have g1 : decide (n < 0) = true := by simpa using hn
    clear hn
    go_enter Try.func37, Try.ntmps37
    go_wp2
    go_ret
    exact ⟨rfl, rfl⟩
  · have g1 : decide (n < 0) = false := by simpa using hn
    have g2 : 0 ≤ n := by omega
    clear hn
    go_enter Try.func37, Try.ntmps37
    go_wp2
    go_ret
    exact ⟨rfl, rfl⟩
theorem done_zero {d : Nat} (h : Zero w d) (n : Int) : Calls Try.prog 16 #[.pointer (some ⟨d, 0, none⟩), .int .i64 n] w fun e w' => e = .returned (.bool true) ∧ ∃ q, w' = w.drewN q := by
  go_enter Try.func16, Try.ntmps16
  go_wp2_with (go_at_call 37; refine (hand_zero h n).mono ?_; rintro e w2 ⟨rfl, rfl⟩)
  go_quiet (fail)
  go_wp2
  go_ret
  exact ⟨rfl, _, rfl⟩
theorem step_zero {d : Nat} (h : Zero w d) (n : Int) : Calls Try.prog 15 #[.pointer (some ⟨d, 0, none⟩), .int .i64 n] w fun e w' => e = .returned (.tuple #[]) ∧ ∃ q, w' = w.drewN q := by
  go_enter Try.func15, Try.ntmps15
  go_wp2_with (go_at_call 16; refine (done_zero h n).mono ?_; rintro e w2 ⟨rfl, q, rfl⟩)
  refine bodyPost_ret (results_none rfl _ _ _) rfl ?_
  exact ⟨rfl, _, rfl⟩
theorem workers_zero {d : Nat} (h : Zero w d) : Calls Try.prog 13 #[.pointer (some ⟨d, 0, none⟩)] w fun e w' => e = .returned (.int .i64 0) ∧ w' = w := by
  obtain ⟨c0, c1, c3, c4⟩ := h.cell
  go_enter Try.func13, Try.ntmps13
  go_wp2
  go_ret
  exact ⟨rfl, rfl⟩
theorem steps_zero {d : Nat} (h : Zero w d) : Calls Try.prog 28 #[.pointer (some ⟨d, 0, none⟩)] w fun e w' => e = .returned (i64 0) ∧ w' = w := by
  obtain ⟨c0, c1, c3, c4⟩ := h.cell
  go_enter Try.func28, Try.ntmps28
  go_wp2
  go_ret
  exact ⟨rfl, rfl⟩
theorem answers_zero {d : Nat} (h : Zero w d) (n : Int) : Calls Try.prog 14 #[.pointer (some ⟨d, 0, none⟩), .int .i64 n] w fun e w' => e = .returned (.slice none 0 0) ∧ w' = w := by
  go_enter Try.func14, Try.ntmps14
  go_wp2_with (go_at_call 37; refine (hand_zero h n).mono ?_; rintro e w2 ⟨rfl, rfl⟩)
  go_ret
  exact ⟨rfl, rfl⟩
set_option maxHeartbeats 1000000 in
theorem left_zero {d : Nat} (h : Zero w d) : Calls Try.prog 18 #[.pointer (some ⟨d, 0, none⟩)] w fun e w' => e = .returned (.slice none 0 0) ∧ ∃ q, w' = w.drewN q := by
  have HC := hid (fun q => (show Zero (w.drewN q) d from h).cell)
  obtain ⟨c0, c1, c3, c4⟩ := h.cell
  go_enter Try.func18, Try.ntmps18
  go_wp2
  go_loopw [3, 4] (fun v i wr => v = .slice none 0 0 ∧ i = .int .i64 0 ∧ ∃ q, wr = w.drewN q) (fun _ i _ => 0)
  case atStart => exact ⟨rfl, rfl, 0, rfl⟩
  case round =>
    obtain ⟨rfl, rfl, q, rfl⟩ := hrel
    obtain ⟨c0, c1, c3, c4⟩ := HC.out q
    go_wp2
    go_ret
    exact ⟨rfl, _, rfl⟩

theorem row_two (w : World) (v u : Value) (e : TypeId) : (w.alloc (.cells #[v, u] e)).cell? ⟨w.heap.size, 0, none⟩ = some v ∧ (w.alloc (.cells #[v, u] e)).cell? ⟨w.heap.size, 1, none⟩ = some u :=
  ⟨cell_of_row _ _ _ _ _ _ (heap_alloc_new w _), cell_of_row _ _ _ _ _ _ (heap_alloc_new w _)⟩
set_option maxHeartbeats 2000000 in
theorem none_walk (w : World) (n : Int) (_ : (Lit.int .i64 n).wf = true) : Calls Try.prog 6 #[.int .i64 n] w fun e w' => e = .returned (.bool true) ∧ Below w.heap.size w w' := by
  show Calls Try.prog 6 #[.int .i64 n] w (BegP w)
  obtain ⟨wa, hwa⟩ : ∃ wa, wa = (w.alloc (.cells #[.int .i64 0, .int .i64 0, .slice none 0 0, .int .i64 0, .slice none 0 0] 57)).alloc (.cells #[.pointer none, .pointer (some ⟨w.heap.size, 0, none⟩)] 30) := ⟨_, rfl⟩
  have HB : Hid (Below w.heap.size w wa) := by rw [hwa]; exact Below.allocS (Below.allocS (Below.refl _ w) _) _
  have HZ : Hid (Zero wa w.heap.size) := by rw [hwa]; exact (heap_alloc_miss _ _ _ (by simp)).trans (heap_alloc_at _ _ _ rfl)
  have HC : Hid (∀ q, (wa.drewN q).cell? ⟨w.heap.size + 1, 0, none⟩ = some (.pointer none) ∧ (wa.drewN q).cell? ⟨w.heap.size + 1, 1, none⟩ = some (.pointer (some ⟨w.heap.size, 0, none⟩))) := by
    intro q
    have := row_two (w.alloc (.cells #[.int .i64 0, .int .i64 0, .slice none 0 0, .int .i64 0, .slice none 0 0] 57)) (.pointer none) (.pointer (some ⟨w.heap.size, 0, none⟩)) 30
    rw [hwa]
    simp
  have HQ := hid hwa
  clear hwa
  go_enter Try.func6, Try.ntmps6
  go_wp2
  rw [← HQ.out]
  clear HQ
  go_loopw [9] (fun i wr => ∃ k : Nat, k ≤ 2 ∧ i = .int .i64 k ∧ ∃ q, wr = wa.drewN q) (fun i _ => 2 - (intOf i).toNat)
  case atStart => exact ⟨0, by omega, rfl, 0, rfl⟩
  case round =>
    obtain ⟨k, hk, rfl, q, rfl⟩ := hrel
    obtain ⟨c0, c1⟩ := HC.out q
    by_cases hlt : k < 2
    · obtain hk0 | hk1 : k = 0 ∨ k = 1 := by omega
      · subst hk0
        rw [show ((0 : Nat) : Int) = 0 from rfl]
        clear hk hlt
        go_wp2_with (first
          | (go_at_call 15; refine (step_nil n).mono ?_; rintro e w2 ⟨rfl, q1, hw2⟩; rw [hw2]; clear hw2)
          | (go_at_call 13; refine (workers_nil _).mono ?_; rintro e w2 ⟨rfl, hw2⟩; rw [hw2]; clear hw2)
          | (go_at_call 16; refine (done_nil n).mono ?_; rintro e w2 ⟨rfl, q2, hw2⟩; rw [hw2]; clear hw2)
          | (go_at_call 24; refine (Try_waits _ _ _).mono ?_; rintro e w2 ⟨rfl, hw2⟩; rw [hw2]; clear hw2)
          | (go_at_call 14; refine (answers_nil n).mono ?_; rintro e w2 ⟨rfl, hw2⟩; rw [hw2]; clear hw2)
          | (go_at_call 18; refine (left_nil).mono ?_; rintro e w2 ⟨rfl, hw2⟩; rw [hw2]; clear hw2)
          | (go_at_call 28; refine (steps_nil _).mono ?_; rintro e w2 ⟨rfl, hw2⟩; rw [hw2]; clear hw2))
        go_roundw
        case rel => exact ⟨1, by omega, rfl, _, rfl⟩
        case measure => simp [intOf]
      · subst hk1
        rw [show ((1 : Nat) : Int) = 1 from rfl]
        clear hk hlt
        go_wp2_with (first
          | (go_at_call 15; refine (step_zero (w := wa.drewN _) HZ.out n).mono ?_; rintro e w2 ⟨rfl, q1, hw2⟩; rw [hw2]; clear hw2)
          | (go_at_call 13; refine (workers_zero (w := wa.drewN _) HZ.out).mono ?_; rintro e w2 ⟨rfl, hw2⟩; rw [hw2]; clear hw2)
          | (go_at_call 16; refine (done_zero (w := wa.drewN _) HZ.out n).mono ?_; rintro e w2 ⟨rfl, q2, hw2⟩; rw [hw2]; clear hw2)
          | (go_at_call 24; refine (Try_waits _ _ _).mono ?_; rintro e w2 ⟨rfl, hw2⟩; rw [hw2]; clear hw2)
          | (go_at_call 14; refine (answers_zero (w := wa.drewN _) HZ.out n).mono ?_; rintro e w2 ⟨rfl, hw2⟩; rw [hw2]; clear hw2)
          | (go_at_call 18; refine (left_zero (w := wa.drewN _) HZ.out).mono ?_; rintro e w2 ⟨rfl, q3, hw2⟩; rw [hw2]; clear hw2)
          | (go_at_call 28; refine (steps_zero (w := wa.drewN _) HZ.out).mono ?_; rintro e w2 ⟨rfl, hw2⟩; rw [hw2]; clear hw2))
        go_roundw
        case rel => exact ⟨2, by omega, rfl, _, rfl⟩
        case measure => simp [intOf]
    · obtain rfl : k = 2 := by omega
      clear hk hlt
      rw [show ((2 : Nat) : Int) = 2 from rfl]
      go_wp2_with (go_at_call 8; refine begun_any.mono ?_; rintro e w2 ⟨rfl, hb2⟩; have HB2 := hid hb2; clear hb2)
      go_ret
      exact ⟨rfl, HB.out.trans ((below_drewN' _ HB2.out).mono HB.out.size)⟩
end Go.Proofs.Ytpgdpddmgljpmaa
