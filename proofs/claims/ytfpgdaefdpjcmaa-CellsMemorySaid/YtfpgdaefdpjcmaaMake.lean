/-
  The walks of Make, the program's and the document's.
-/
import Derived.Test.YtfpgdaefdpjcmaaK
namespace Go.Proofs.Ytfpgdaefdpjcmaa
open Go.RowKit

set_option maxHeartbeats 1000000 in
theorem make_any (k n : Int) (w : World) : Calls Try.prog 16 #[i64 k, i64 n] w (CeTell (makeP k n).1 [i64 (makeP k n).2] w) := by
  by_cases h1 : k < 1
  · have HP : Hid (makeP k n = (ce0, 1)) := by simp only [Hid, makeP]; rw [if_pos (by simp [badMk]; omega)]
    have e1 : decide (k < 1) = true := by rw [decide_eq_true_iff]; omega
    clear h1
    go_enter Try.func16, Try.ntmps16
    go_wp2_with fail
    exact bodyPost_ret (v := .tuple #[ce0.val none 0, i64 1]) (by simp [results, Try.results16, go_sem, ce0, Ce.val]) rfl (by rw [HP.out]; exact ⟨none, 0, rfl, slat_nil _, (Below.refl _ _).alloc (Nat.le_refl _) _⟩)
  · by_cases h2 : 4 < k
    · have HP : Hid (makeP k n = (ce0, 1)) := by simp only [Hid, makeP]; rw [if_pos (by simp [badMk]; omega)]
      have e1 : decide (k < 1) = false := by rw [decide_eq_false_iff_not]; omega
      have e2 : decide (4 < k) = true := by rw [decide_eq_true_iff]; omega
      clear h1 h2
      go_enter Try.func16, Try.ntmps16
      go_wp2_with fail
      exact bodyPost_ret (v := .tuple #[ce0.val none 0, i64 1]) (by simp [results, Try.results16, go_sem, ce0, Ce.val]) rfl (by rw [HP.out]; exact ⟨none, 0, rfl, slat_nil _, (Below.refl _ _).alloc (Nat.le_refl _) _⟩)
    · by_cases h3 : k = 3
      · by_cases h4 : n < 1
        · have HP : Hid (makeP k n = (ce0, 1)) := by simp only [Hid, makeP]; rw [if_pos (by simp [badMk]; omega)]
          have e1 : decide (k < 1) = false := by rw [decide_eq_false_iff_not]; omega
          have e2 : decide (4 < k) = false := by rw [decide_eq_false_iff_not]; omega
          have e3 : (k == 3) = true := by rw [beq_iff_eq]; omega
          have e3b : (k != 3) = false := by rw [bne_eq_false_iff_eq]; omega
          have e4 : decide (n < 1) = true := by rw [decide_eq_true_iff]; omega
          clear h1 h2 h3 h4
          go_enter Try.func16, Try.ntmps16
          go_wp2_with fail
          exact bodyPost_ret (v := .tuple #[ce0.val none 0, i64 1]) (by simp [results, Try.results16, go_sem, ce0, Ce.val]) rfl (by rw [HP.out]; exact ⟨none, 0, rfl, slat_nil _, (Below.refl _ _).alloc (Nat.le_refl _) _⟩)
        · by_cases h5 : 64 < n
          · have HP : Hid (makeP k n = (ce0, 1)) := by simp only [Hid, makeP]; rw [if_pos (by simp [badMk]; omega)]
            have e1 : decide (k < 1) = false := by rw [decide_eq_false_iff_not]; omega
            have e2 : decide (4 < k) = false := by rw [decide_eq_false_iff_not]; omega
            have e3 : (k == 3) = true := by rw [beq_iff_eq]; omega
            have e3b : (k != 3) = false := by rw [bne_eq_false_iff_eq]; omega
            have e4 : decide (n < 1) = false := by rw [decide_eq_false_iff_not]; omega
            have e5 : decide (64 < n) = true := by rw [decide_eq_true_iff]; omega
            clear h1 h2 h3 h4 h5
            go_enter Try.func16, Try.ntmps16
            go_wp2_with fail
            exact bodyPost_ret (v := .tuple #[ce0.val none 0, i64 1]) (by simp [results, Try.results16, go_sem, ce0, Ce.val]) rfl (by rw [HP.out]; exact ⟨none, 0, rfl, slat_nil _, (Below.refl _ _).alloc (Nat.le_refl _) _⟩)
          · have HP : Hid (makeP k n = (⟨k, 0, -1, n, [], 0, false⟩, 0)) := by simp only [Hid, makeP]; rw [if_neg (by simp [badMk]; omega)]
            have e1 : decide (k < 1) = false := by rw [decide_eq_false_iff_not]; omega
            have e2 : decide (4 < k) = false := by rw [decide_eq_false_iff_not]; omega
            have e3 : (k == 3) = true := by rw [beq_iff_eq]; omega
            have e3b : (k != 3) = false := by rw [bne_eq_false_iff_eq]; omega
            have e4 : decide (n < 1) = false := by rw [decide_eq_false_iff_not]; omega
            have e5 : decide (64 < n) = false := by rw [decide_eq_false_iff_not]; omega
            clear h1 h2 h3 h4 h5
            go_enter Try.func16, Try.ntmps16
            go_wp2_with fail
            exact bodyPost_ret (v := .tuple #[(Ce.mk k 0 (-1) n [] 0 false).val none 0, i64 0]) (by simp [results, Try.results16, go_sem, Ce.val]) rfl (by rw [HP.out]; exact ⟨none, 0, rfl, slat_nil _, (Below.refl _ _).alloc (Nat.le_refl _) _⟩)
      · by_cases h4 : n = 0
        · have HP : Hid (makeP k n = (⟨k, 0, -1, n, [], 0, false⟩, 0)) := by simp only [Hid, makeP]; rw [if_neg (by simp [badMk]; omega)]
          have e1 : decide (k < 1) = false := by rw [decide_eq_false_iff_not]; omega
          have e2 : decide (4 < k) = false := by rw [decide_eq_false_iff_not]; omega
          have e3 : (k == 3) = false := by rw [beq_eq_false_iff_ne]; omega
          have e3b : (k != 3) = true := by rw [bne_iff_ne]; omega
          have e4 : (n != 0) = false := by rw [bne_eq_false_iff_eq]; omega
          clear h1 h2 h3 h4
          go_enter Try.func16, Try.ntmps16
          go_wp2_with fail
          exact bodyPost_ret (v := .tuple #[(Ce.mk k 0 (-1) n [] 0 false).val none 0, i64 0]) (by simp [results, Try.results16, go_sem, Ce.val]) rfl (by rw [HP.out]; exact ⟨none, 0, rfl, slat_nil _, (Below.refl _ _).alloc (Nat.le_refl _) _⟩)
        · have HP : Hid (makeP k n = (ce0, 1)) := by simp only [Hid, makeP]; rw [if_pos (by simp [badMk]; omega)]
          have e1 : decide (k < 1) = false := by rw [decide_eq_false_iff_not]; omega
          have e2 : decide (4 < k) = false := by rw [decide_eq_false_iff_not]; omega
          have e3 : (k == 3) = false := by rw [beq_eq_false_iff_ne]; omega
          have e3b : (k != 3) = true := by rw [bne_iff_ne]; omega
          have e4 : (n != 0) = true := by rw [bne_iff_ne]; omega
          clear h1 h2 h3 h4
          go_enter Try.func16, Try.ntmps16
          go_wp2_with fail
          exact bodyPost_ret (v := .tuple #[ce0.val none 0, i64 1]) (by simp [results, Try.results16, go_sem, ce0, Ce.val]) rfl (by rw [HP.out]; exact ⟨none, 0, rfl, slat_nil _, (Below.refl _ _).alloc (Nat.le_refl _) _⟩)

set_option maxHeartbeats 1000000 in
theorem rmake_any (k n : Int) (w : World) : Calls Try.prog 17 #[i64 k, i64 n] w (CeTell (makeP k n).1 [i64 (makeP k n).2] w) := by
  by_cases h1 : k < 1
  · have HP : Hid (makeP k n = (ce0, 1)) := by simp only [Hid, makeP]; rw [if_pos (by simp [badMk]; omega)]
    have e1 : decide (k < 1) = true := by rw [decide_eq_true_iff]; omega
    clear h1
    go_enter Try.func17, Try.ntmps17
    go_wp2_with fail
    exact bodyPost_ret (v := .tuple #[ce0.val none 0, i64 1]) (by simp [results, Try.results17, go_sem, ce0, Ce.val]) rfl (by rw [HP.out]; exact ⟨none, 0, rfl, slat_nil _, (Below.refl _ _).alloc (Nat.le_refl _) _⟩)
  · by_cases h2 : 4 < k
    · have HP : Hid (makeP k n = (ce0, 1)) := by simp only [Hid, makeP]; rw [if_pos (by simp [badMk]; omega)]
      have e1 : decide (k < 1) = false := by rw [decide_eq_false_iff_not]; omega
      have e2 : decide (4 < k) = true := by rw [decide_eq_true_iff]; omega
      clear h1 h2
      go_enter Try.func17, Try.ntmps17
      go_wp2_with fail
      exact bodyPost_ret (v := .tuple #[ce0.val none 0, i64 1]) (by simp [results, Try.results17, go_sem, ce0, Ce.val]) rfl (by rw [HP.out]; exact ⟨none, 0, rfl, slat_nil _, (Below.refl _ _).alloc (Nat.le_refl _) _⟩)
    · by_cases h3 : k = 3
      · by_cases h4 : n < 1
        · have HP : Hid (makeP k n = (ce0, 1)) := by simp only [Hid, makeP]; rw [if_pos (by simp [badMk]; omega)]
          have e1 : decide (k < 1) = false := by rw [decide_eq_false_iff_not]; omega
          have e2 : decide (4 < k) = false := by rw [decide_eq_false_iff_not]; omega
          have e3 : (k == 3) = true := by rw [beq_iff_eq]; omega
          have e3b : (k != 3) = false := by rw [bne_eq_false_iff_eq]; omega
          have e4 : decide (n < 1) = true := by rw [decide_eq_true_iff]; omega
          clear h1 h2 h3 h4
          go_enter Try.func17, Try.ntmps17
          go_wp2_with fail
          exact bodyPost_ret (v := .tuple #[ce0.val none 0, i64 1]) (by simp [results, Try.results17, go_sem, ce0, Ce.val]) rfl (by rw [HP.out]; exact ⟨none, 0, rfl, slat_nil _, (Below.refl _ _).alloc (Nat.le_refl _) _⟩)
        · by_cases h5 : 64 < n
          · have HP : Hid (makeP k n = (ce0, 1)) := by simp only [Hid, makeP]; rw [if_pos (by simp [badMk]; omega)]
            have e1 : decide (k < 1) = false := by rw [decide_eq_false_iff_not]; omega
            have e2 : decide (4 < k) = false := by rw [decide_eq_false_iff_not]; omega
            have e3 : (k == 3) = true := by rw [beq_iff_eq]; omega
            have e3b : (k != 3) = false := by rw [bne_eq_false_iff_eq]; omega
            have e4 : decide (n < 1) = false := by rw [decide_eq_false_iff_not]; omega
            have e5 : decide (64 < n) = true := by rw [decide_eq_true_iff]; omega
            clear h1 h2 h3 h4 h5
            go_enter Try.func17, Try.ntmps17
            go_wp2_with fail
            exact bodyPost_ret (v := .tuple #[ce0.val none 0, i64 1]) (by simp [results, Try.results17, go_sem, ce0, Ce.val]) rfl (by rw [HP.out]; exact ⟨none, 0, rfl, slat_nil _, (Below.refl _ _).alloc (Nat.le_refl _) _⟩)
          · have HP : Hid (makeP k n = (⟨k, 0, -1, n, [], 0, false⟩, 0)) := by simp only [Hid, makeP]; rw [if_neg (by simp [badMk]; omega)]
            have e1 : decide (k < 1) = false := by rw [decide_eq_false_iff_not]; omega
            have e2 : decide (4 < k) = false := by rw [decide_eq_false_iff_not]; omega
            have e3 : (k == 3) = true := by rw [beq_iff_eq]; omega
            have e3b : (k != 3) = false := by rw [bne_eq_false_iff_eq]; omega
            have e4 : decide (n < 1) = false := by rw [decide_eq_false_iff_not]; omega
            have e5 : decide (64 < n) = false := by rw [decide_eq_false_iff_not]; omega
            clear h1 h2 h3 h4 h5
            go_enter Try.func17, Try.ntmps17
            go_wp2_with fail
            exact bodyPost_ret (v := .tuple #[(Ce.mk k 0 (-1) n [] 0 false).val none 0, i64 0]) (by simp [results, Try.results17, go_sem, Ce.val]) rfl (by rw [HP.out]; exact ⟨none, 0, rfl, slat_nil _, (Below.refl _ _).alloc (Nat.le_refl _) _⟩)
      · by_cases h4 : n = 0
        · have HP : Hid (makeP k n = (⟨k, 0, -1, n, [], 0, false⟩, 0)) := by simp only [Hid, makeP]; rw [if_neg (by simp [badMk]; omega)]
          have e1 : decide (k < 1) = false := by rw [decide_eq_false_iff_not]; omega
          have e2 : decide (4 < k) = false := by rw [decide_eq_false_iff_not]; omega
          have e3 : (k == 3) = false := by rw [beq_eq_false_iff_ne]; omega
          have e3b : (k != 3) = true := by rw [bne_iff_ne]; omega
          have e4 : (n != 0) = false := by rw [bne_eq_false_iff_eq]; omega
          clear h1 h2 h3 h4
          go_enter Try.func17, Try.ntmps17
          go_wp2_with fail
          exact bodyPost_ret (v := .tuple #[(Ce.mk k 0 (-1) n [] 0 false).val none 0, i64 0]) (by simp [results, Try.results17, go_sem, Ce.val]) rfl (by rw [HP.out]; exact ⟨none, 0, rfl, slat_nil _, (Below.refl _ _).alloc (Nat.le_refl _) _⟩)
        · have HP : Hid (makeP k n = (ce0, 1)) := by simp only [Hid, makeP]; rw [if_pos (by simp [badMk]; omega)]
          have e1 : decide (k < 1) = false := by rw [decide_eq_false_iff_not]; omega
          have e2 : decide (4 < k) = false := by rw [decide_eq_false_iff_not]; omega
          have e3 : (k == 3) = false := by rw [beq_eq_false_iff_ne]; omega
          have e3b : (k != 3) = true := by rw [bne_iff_ne]; omega
          have e4 : (n != 0) = true := by rw [bne_iff_ne]; omega
          clear h1 h2 h3 h4
          go_enter Try.func17, Try.ntmps17
          go_wp2_with fail
          exact bodyPost_ret (v := .tuple #[ce0.val none 0, i64 1]) (by simp [results, Try.results17, go_sem, ce0, Ce.val]) rfl (by rw [HP.out]; exact ⟨none, 0, rfl, slat_nil _, (Below.refl _ _).alloc (Nat.le_refl _) _⟩)

end Go.Proofs.Ytfpgdaefdpjcmaa
