/-
  The walks of the document's Check and what it calls.
-/
import Derived.Test.YtkjiiikcillcfaaK
namespace Go.Proofs.Ytkjiiikcillcfaa
open Go.RowKit

theorem rwithin_any (n : Int) (w : World) : Calls Try.prog 40 #[i64 n] w fun e w' => e = .returned (.bool (within n (-1073741824) 1073741824)) ∧ w = w' := by
  by_cases h : -1073741824 ≤ n
  · go_enter Try.func40, Try.ntmps40
    go_wp2
    go_ret
    exact ⟨ret_bool (by simp [within, h]), rfl⟩
  · have h' : n < -1073741824 := by omega
    have HD : Hid (within n (-1073741824) 1073741824 = false) := by simp [Hid, within, h]
    clear h
    go_enter Try.func40, Try.ntmps40
    go_wp2
    go_ret
    exact ⟨ret_bool (by rw [HD.out]), rfl⟩

theorem power_any (n : Nat) (w : World) (h : n ≤ 12) : Calls Try.prog 33 #[i64 n] w fun e w' => e = .returned (.int .i64 (2 ^ n)) ∧ w = w' := by
  go_enter Try.func33, Try.ntmps33
  go_wp2
  go_loop [3, 4] (fun v i => ∃ k : Nat, k ≤ n ∧ i = .int .i64 k ∧ v = .int .i64 (2 ^ k)) (fun _ i => n - (intOf i).toNat)
  case atStart => exact ⟨0, Nat.zero_le _, rfl, rfl⟩
  case round =>
    obtain ⟨k, hk, rfl, rfl⟩ := hrel
    have hp := pow12 k (by omega)
    obtain ⟨hp1, hp2⟩ := hp
    by_cases hlt : k < n
    · go_wp2
      go_round
      case rel => exact ⟨k + 1, by omega, by go_num, by rw [Int.pow_succ]⟩
      case measure => simp [intOf]; omega
    · have hkn : k = n := by omega
      subst hkn
      go_wp2
      go_ret
      exact ⟨rfl, rfl⟩

def OnePost (x : It) (n : Int) (w : World) (e : Ending) (w' : World) : Prop := (∃ k, e = .returned (.tuple #[i64 k, .bool (plainP x n)]) ∧ (plainP x n = true → k = mostP x)) ∧ Below w.heap.size w w'

set_option maxHeartbeats 1000000 in
theorem one_1 (size al to add lo hi : Int) (n : Int) (w : World) : Calls Try.prog 30 #[(It.mk 1 size al to add lo hi).val, i64 n] w (OnePost ⟨1, size, al, to, add, lo, hi⟩ n w) := by
  unfold It.val
  dsimp only
  rcases Classical.em (al = 0) with hz | hz
  · subst hz
    rcases Classical.em (to = 0) with hz | hz
    · subst hz
      rcases Classical.em (add = 0) with hz | hz
      · subst hz
        rcases Classical.em (lo = 0) with hz | hz
        · subst hz
          rcases Classical.em (hi = 0) with hz | hz
          · subst hz
            by_cases hs1 : 0 ≤ size
            · have d1 : decide (0 ≤ size) = true := by simpa using hs1
              by_cases hs2 : size ≤ 67108864
              · have d2 : decide (size ≤ 67108864) = true := by simpa using hs2
                have HP : Hid (plainP ⟨1, size, 0, 0, 0, 0, 0⟩ n = true) := by simp [Hid, plainP, within, hs1, hs2]
                go_enter Try.func30, Try.ntmps30
                go_wp2_with fail
                go_quiet (fail)
                go_wp2_with fail
                go_ret2
                exact ⟨⟨_, by rw [HP.out]; rfl, fun _ => by simp [mostP]⟩, below_drewN ((Below.refl _ _).alloc (Nat.le_refl _) _) _⟩
              · have d2 : decide (size ≤ 67108864) = false := by simpa using hs2
                have HP : Hid (plainP ⟨1, size, 0, 0, 0, 0, 0⟩ n = false) := by simp [Hid, plainP, within, hs1, hs2]
                clear hs2
                go_enter Try.func30, Try.ntmps30
                go_wp2_with fail
                go_quiet (fail)
                go_wp2_with fail
                go_ret2
                exact ⟨⟨_, by rw [HP.out]; rfl, fun _ => by simp [mostP]⟩, below_drewN ((Below.refl _ _).alloc (Nat.le_refl _) _) _⟩
            · have d1 : decide (0 ≤ size) = false := by simpa using hs1
              have HP : Hid (plainP ⟨1, size, 0, 0, 0, 0, 0⟩ n = false) := by simp [Hid, plainP, within, hs1]
              clear hs1
              go_enter Try.func30, Try.ntmps30
              go_wp2_with fail
              go_quiet (fail)
              go_wp2_with fail
              go_ret2
              exact ⟨⟨_, by rw [HP.out]; rfl, fun _ => by simp [mostP]⟩, below_drewN ((Below.refl _ _).alloc (Nat.le_refl _) _) _⟩
          · have ehi : (hi == 0) = false := by simpa using hz
            have HP : Hid (plainP ⟨1, size, 0, 0, 0, 0, hi⟩ n = false) := by simp [Hid, plainP, hz]
            clear hz
            go_enter Try.func30, Try.ntmps30
            go_wp2_with fail
            go_quiet (fail)
            go_wp2_with fail
            go_ret2
            exact ⟨⟨_, by rw [HP.out]; rfl, fun h => by rw [HP.out] at h; cases h⟩, below_drewN ((Below.refl _ _).alloc (Nat.le_refl _) _) _⟩
        · have elo : (lo == 0) = false := by simpa using hz
          have HP : Hid (plainP ⟨1, size, 0, 0, 0, lo, hi⟩ n = false) := by simp [Hid, plainP, hz]
          clear hz
          go_enter Try.func30, Try.ntmps30
          go_wp2_with fail
          go_quiet (fail)
          go_wp2_with fail
          go_ret2
          exact ⟨⟨_, by rw [HP.out]; rfl, fun h => by rw [HP.out] at h; cases h⟩, below_drewN ((Below.refl _ _).alloc (Nat.le_refl _) _) _⟩
      · have eadd : (add == 0) = false := by simpa using hz
        have HP : Hid (plainP ⟨1, size, 0, 0, add, lo, hi⟩ n = false) := by simp [Hid, plainP, hz]
        clear hz
        go_enter Try.func30, Try.ntmps30
        go_wp2_with fail
        go_quiet (fail)
        go_wp2_with fail
        go_ret2
        exact ⟨⟨_, by rw [HP.out]; rfl, fun h => by rw [HP.out] at h; cases h⟩, below_drewN ((Below.refl _ _).alloc (Nat.le_refl _) _) _⟩
    · have eto : (to == 0) = false := by simpa using hz
      have HP : Hid (plainP ⟨1, size, 0, to, add, lo, hi⟩ n = false) := by simp [Hid, plainP, hz]
      clear hz
      go_enter Try.func30, Try.ntmps30
      go_wp2_with fail
      go_quiet (fail)
      go_wp2_with fail
      go_ret2
      exact ⟨⟨_, by rw [HP.out]; rfl, fun h => by rw [HP.out] at h; cases h⟩, below_drewN ((Below.refl _ _).alloc (Nat.le_refl _) _) _⟩
  · have eal : (al == 0) = false := by simpa using hz
    have HP : Hid (plainP ⟨1, size, al, to, add, lo, hi⟩ n = false) := by simp [Hid, plainP, hz]
    clear hz
    go_enter Try.func30, Try.ntmps30
    go_wp2_with fail
    go_quiet (fail)
    go_wp2_with fail
    go_ret2
    exact ⟨⟨_, by rw [HP.out]; rfl, fun h => by rw [HP.out] at h; cases h⟩, below_drewN ((Below.refl _ _).alloc (Nat.le_refl _) _) _⟩
end Go.Proofs.Ytkjiiikcillcfaa
