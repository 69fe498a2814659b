/-
  The walks of relax.Check and what it calls.
-/
import Derived.Test.YtkjiiikcillcfaaK
namespace Go.Proofs.Ytkjiiikcillcfaa
open Go.RowKit

theorem within_any (n a b : Int) (w : World) : Calls Try.prog 42 #[i64 n, i64 a, i64 b] w fun e w' => e = .returned (.bool (within n a b)) ∧ w = w' := by
  by_cases h : a ≤ n
  · go_enter Try.func42, Try.ntmps42
    go_wp2
    go_ret
    exact ⟨ret_bool (by simp [within, h]), rfl⟩
  · have h' : n < a := by omega
    have HD : Hid (within n a b = false) := by simp [Hid, within, h]
    clear h
    go_enter Try.func42, Try.ntmps42
    go_wp2
    go_ret
    exact ⟨ret_bool (by rw [HD.out]), rfl⟩

set_option maxHeartbeats 1000000 in
theorem plain_any (x : It) (n : Int) (w : World) (h0 : 0 ≤ n) : Calls Try.prog 34 #[x.val, i64 n] w fun e w' => e = .returned (.bool (plainP x n)) ∧ Below w.heap.size w w' := by
  obtain ⟨kind, size, al, to, add, lo, hi⟩ := x
  unfold It.val
  dsimp only
  rcases Classical.em (kind = 1) with hk | hk
  · subst hk
    go_enter Try.func34, Try.ntmps34
    go_wp2_with (go_at_call 42; refine (within_any _ _ _ _).mono ?_; rintro e w' ⟨rfl, rfl⟩)
    all_goals go_ret
    all_goals refine ⟨ret_bool ?_, ((Below.refl _ _).alloc (Nat.le_refl _) _).alloc (by simp) _⟩
    all_goals simp_all [plainP, within]
    all_goals omega
  · rcases Classical.em (kind = 2) with hk2 | hk2
    · subst hk2
      go_enter Try.func34, Try.ntmps34
      go_wp2_with (go_at_call 42; refine (within_any _ _ _ _).mono ?_; rintro e w' ⟨rfl, rfl⟩)
      all_goals go_ret
      all_goals refine ⟨ret_bool ?_, ((Below.refl _ _).alloc (Nat.le_refl _) _).alloc (by simp) _⟩
      all_goals simp_all [plainP, within]
      all_goals omega
    · rcases Classical.em (kind = 3) with hk3 | hk3
      · subst hk3
        go_enter Try.func34, Try.ntmps34
        go_wp2_with (go_at_call 42; refine (within_any _ _ _ _).mono ?_; rintro e w' ⟨rfl, rfl⟩)
        go_region
        go_wp2_with (go_at_call 42; refine (within_any _ _ _ _).mono ?_; rintro e w' ⟨rfl, rfl⟩)
        all_goals go_ret
        all_goals refine ⟨ret_bool ?_, (((Below.refl _ _).alloc (Nat.le_refl _) _).alloc (by simp) _).drew⟩
        all_goals simp_all [plainP, within]
        all_goals omega
      · have e1 : (kind == 1) = false := by simpa using hk
        have e2 : (kind == 2) = false := by simpa using hk2
        have e3 : (kind == 3) = false := by simpa using hk3
        have HP : Hid (plainP ⟨kind, size, al, to, add, lo, hi⟩ n = false) := by simp [Hid, plainP, hk, hk2, hk3]
        clear hk hk2 hk3
        go_enter Try.func34, Try.ntmps34
        go_wp2_with fail
        go_ret
        exact ⟨ret_bool (by rw [HP.out]), ((Below.refl _ _).alloc (Nat.le_refl _) _).alloc (by simp) _⟩

set_option maxHeartbeats 1000000 in
theorem most_any (x : It) (w : World) (h : x.kind = 2 → 0 ≤ x.al ∧ x.al ≤ 12) : Calls Try.prog 35 #[x.val] w fun e w' => e = .returned (.int .i64 (mostP x)) ∧ Below w.heap.size w w' := by
  obtain ⟨kind, size, al, to, add, lo, hi⟩ := x
  unfold It.val
  dsimp only at h ⊢
  rcases Classical.em (kind = 1) with hk | hk
  · subst hk
    clear h
    go_enter Try.func35, Try.ntmps35
    go_wp2
    go_ret
    exact ⟨ret_int (by simp [mostP]), (Below.refl _ _).alloc (Nat.le_refl _) _⟩
  · rcases Classical.em (kind = 2) with hk2 | hk2
    · subst hk2
      obtain ⟨h1, h2⟩ := h rfl
      clear h
      obtain ⟨n, rfl⟩ : ∃ n : Nat, al = n := ⟨al.toNat, by omega⟩
      have hp := pow12 n (by omega)
      obtain ⟨hp1, hp2⟩ := hp
      go_enter Try.func35, Try.ntmps35
      go_wp2
      go_ret
      exact ⟨ret_int (by simp [mostP]), (Below.refl _ _).alloc (Nat.le_refl _) _⟩
    · have e1 : (kind == 1) = false := by simpa using hk
      have e2 : (kind == 2) = false := by simpa using hk2
      have HP : Hid (mostP ⟨kind, size, al, to, add, lo, hi⟩ = 8) := by simp [Hid, mostP, hk, hk2]
      clear hk hk2 h
      go_enter Try.func35, Try.ntmps35
      go_wp2_with fail
      go_ret
      exact ⟨ret_int (by rw [HP.out]), (Below.refl _ _).alloc (Nat.le_refl _) _⟩

end Go.Proofs.Ytkjiiikcillcfaa
