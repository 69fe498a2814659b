/-
  The walk of the document's one: items that are aligned, branches, and all others.
-/
import Derived.Test.YtkjiiikcillcfaaW3
namespace Go.Proofs.Ytkjiiikcillcfaa
open Go.RowKit

theorem ret_two {k : Int} {a b : Bool} (h : a = b) : Ending.returned (.tuple #[i64 k, .bool a]) = Ending.returned (.tuple #[i64 k, .bool b]) := by rw [h]

set_option maxHeartbeats 1000000 in
theorem one_2 (size to add lo hi : Int) (a : Nat) (n : Int) (w : World) (ha : a ≤ 12) : Calls Try.prog 30 #[(It.mk 2 size a to add lo hi).val, i64 n] w (OnePost ⟨2, size, a, to, add, lo, hi⟩ n w) := by
  unfold It.val
  dsimp only
  have hp := pow12 a ha
  obtain ⟨hp1, hp2⟩ := hp
  have hw1 : IntKind.i64.wrap ((2 : Int) ^ a - 1) = 2 ^ a - 1 := IntWalk.i64_in _ (by omega)
  rcases Classical.em (size = 0) with hz | hz
  · subst hz
    rcases Classical.em (to = 0) with hz | hz
    · subst hz
      rcases Classical.em (add = 0) with hz | hz
      · subst hz
        rcases Classical.em (lo = 0) with hz | hz
        · subst hz
          rcases Classical.em (hi = 0) with hz | hz
          · subst hz
            have HP : Hid (plainP ⟨2, 0, a, 0, 0, 0, 0⟩ n = true) := by simp [Hid, plainP, within]; omega
            go_enter Try.func30, Try.ntmps30
            go_wp2_with fail
            go_quiet ((go_at_call 33; exact Calls.quiet_of_same ((power_any a _ (by omega)).mono fun _ _ ⟨h1, h2⟩ => ⟨h1, h2.symm⟩)))
            go_wp2_with fail
            go_ret2
            exact ⟨⟨_, by rw [HP.out]; rfl, fun _ => by simp [mostP]⟩, below_drewN ((Below.refl _ _).alloc (Nat.le_refl _) _) _⟩
          · have ehi : (hi == 0) = false := by simpa using hz
            have HP : Hid (plainP ⟨2, 0, a, 0, 0, 0, hi⟩ n = false) := by simp [Hid, plainP, hz]
            clear hz
            go_enter Try.func30, Try.ntmps30
            go_wp2_with fail
            go_quiet ((go_at_call 33; exact Calls.quiet_of_same ((power_any a _ (by omega)).mono fun _ _ ⟨h1, h2⟩ => ⟨h1, h2.symm⟩)))
            go_wp2_with fail
            go_ret2
            exact ⟨⟨_, by rw [HP.out]; rfl, fun h => by rw [HP.out] at h; cases h⟩, below_drewN ((Below.refl _ _).alloc (Nat.le_refl _) _) _⟩
        · have elo : (lo == 0) = false := by simpa using hz
          have HP : Hid (plainP ⟨2, 0, a, 0, 0, lo, hi⟩ n = false) := by simp [Hid, plainP, hz]
          clear hz
          go_enter Try.func30, Try.ntmps30
          go_wp2_with fail
          go_quiet ((go_at_call 33; exact Calls.quiet_of_same ((power_any a _ (by omega)).mono fun _ _ ⟨h1, h2⟩ => ⟨h1, h2.symm⟩)))
          go_wp2_with fail
          go_ret2
          exact ⟨⟨_, by rw [HP.out]; rfl, fun h => by rw [HP.out] at h; cases h⟩, below_drewN ((Below.refl _ _).alloc (Nat.le_refl _) _) _⟩
      · have eadd : (add == 0) = false := by simpa using hz
        have HP : Hid (plainP ⟨2, 0, a, 0, add, lo, hi⟩ n = false) := by simp [Hid, plainP, hz]
        clear hz
        go_enter Try.func30, Try.ntmps30
        go_wp2_with fail
        go_quiet ((go_at_call 33; exact Calls.quiet_of_same ((power_any a _ (by omega)).mono fun _ _ ⟨h1, h2⟩ => ⟨h1, h2.symm⟩)))
        go_wp2_with fail
        go_ret2
        exact ⟨⟨_, by rw [HP.out]; rfl, fun h => by rw [HP.out] at h; cases h⟩, below_drewN ((Below.refl _ _).alloc (Nat.le_refl _) _) _⟩
    · have eto : (to == 0) = false := by simpa using hz
      have HP : Hid (plainP ⟨2, 0, a, to, add, lo, hi⟩ n = false) := by simp [Hid, plainP, hz]
      clear hz
      go_enter Try.func30, Try.ntmps30
      go_wp2_with fail
      go_quiet ((go_at_call 33; exact Calls.quiet_of_same ((power_any a _ (by omega)).mono fun _ _ ⟨h1, h2⟩ => ⟨h1, h2.symm⟩)))
      go_wp2_with fail
      go_ret2
      exact ⟨⟨_, by rw [HP.out]; rfl, fun h => by rw [HP.out] at h; cases h⟩, below_drewN ((Below.refl _ _).alloc (Nat.le_refl _) _) _⟩
  · have esize : (size == 0) = false := by simpa using hz
    have HP : Hid (plainP ⟨2, size, a, to, add, lo, hi⟩ n = false) := by simp [Hid, plainP, hz]
    clear hz
    go_enter Try.func30, Try.ntmps30
    go_wp2_with fail
    go_quiet ((go_at_call 33; exact Calls.quiet_of_same ((power_any a _ (by omega)).mono fun _ _ ⟨h1, h2⟩ => ⟨h1, h2.symm⟩)))
    go_wp2_with fail
    go_ret2
    exact ⟨⟨_, by rw [HP.out]; rfl, fun h => by rw [HP.out] at h; cases h⟩, below_drewN ((Below.refl _ _).alloc (Nat.le_refl _) _) _⟩

set_option maxHeartbeats 1000000 in
theorem one_3 (size al to add lo hi : Int) (n : Int) (w : World) : Calls Try.prog 30 #[(It.mk 3 size al to add lo hi).val, i64 n] w (OnePost ⟨3, size, al, to, add, lo, hi⟩ n w) := by
  unfold It.val
  dsimp only
  go_enter Try.func30, Try.ntmps30
  go_wp2_with (go_at_call 40; refine (rwithin_any _ _).mono ?_; rintro e w' ⟨rfl, rfl⟩)
  all_goals go_ret2
  all_goals refine ⟨⟨8, ?_, fun _ => by simp [mostP]⟩, (Below.refl _ _).alloc (Nat.le_refl _) _⟩
  all_goals refine ret_two ?_
  all_goals simp_all [plainP, within]
  all_goals omega

theorem one_any (x : It) (n : Int) (w : World) : Calls Try.prog 30 #[x.val, i64 n] w (OnePost x n w) := by
  obtain ⟨kind, size, al, to, add, lo, hi⟩ := x
  rcases Classical.em (kind = 1) with hk | hk
  · subst hk; exact one_1 size al to add lo hi n w
  · rcases Classical.em (kind = 2) with hk2 | hk2
    · subst hk2
      by_cases h : 0 ≤ al ∧ al ≤ 12
      · obtain ⟨a, rfl⟩ : ∃ a : Nat, al = a := ⟨al.toNat, by omega⟩
        exact one_2 size to add lo hi a n w (by omega)
      · have HP : Hid (plainP ⟨2, size, al, to, add, lo, hi⟩ n = false) := by
          simp [Hid, plainP, within]; intros; omega
        unfold It.val
        dsimp only
        by_cases h1 : al < 0
        · clear h
          go_enter Try.func30, Try.ntmps30
          go_wp2_with fail
          go_ret2
          exact ⟨⟨0, by rw [HP.out]; rfl, fun h => by rw [HP.out] at h; cases h⟩, (Below.refl _ _).alloc (Nat.le_refl _) _⟩
        · have h2 : 12 < al := by omega
          have h3 : 0 ≤ al := by omega
          clear h h1
          go_enter Try.func30, Try.ntmps30
          go_wp2_with fail
          go_ret2
          exact ⟨⟨0, by rw [HP.out]; rfl, fun h => by rw [HP.out] at h; cases h⟩, (Below.refl _ _).alloc (Nat.le_refl _) _⟩
    · rcases Classical.em (kind = 3) with hk3 | hk3
      · subst hk3; exact one_3 size al to add lo hi n w
      · have e1 : (kind == 1) = false := by simpa using hk
        have e2 : (kind == 2) = false := by simpa using hk2
        have e3 : (kind == 3) = false := by simpa using hk3
        have HP : Hid (plainP ⟨kind, size, al, to, add, lo, hi⟩ n = false) := by simp [Hid, plainP, hk, hk2, hk3]
        clear hk hk2 hk3
        unfold It.val
        dsimp only
        go_enter Try.func30, Try.ntmps30
        go_wp2_with fail
        go_ret2
        exact ⟨⟨0, by rw [HP.out]; rfl, fun h => by rw [HP.out] at h; cases h⟩, (Below.refl _ _).alloc (Nat.le_refl _) _⟩
end Go.Proofs.Ytkjiiikcillcfaa
