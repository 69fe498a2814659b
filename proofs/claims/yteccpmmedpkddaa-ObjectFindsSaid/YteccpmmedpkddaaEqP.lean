/-
  In plain words: both checks of an object are one.
-/
import Derived.Test.YteccpmmedpkddaaRChk
namespace Go.Proofs.Yteccpmmedpkddaa
open Go.RowKit

theorem less_cmp : ∀ x y : List UInt8, x ≠ y → Op.bytesLess x y = !decide (Lib.compareBytes y x < 0)
  | [], [], h => absurd rfl h
  | [], b :: y, _ => by simp [Op.bytesLess, Lib.compareBytes]
  | a :: x, [], _ => by simp [Op.bytesLess, Lib.compareBytes]
  | a :: x, b :: y, h => by
    rw [Op.bytesLess, Lib.compareBytes]
    by_cases h1 : b < a
    · have h2 : ¬ a < b := by rw [UInt8.lt_iff_toNat_lt] at *; omega
      have h3 : ¬ a = b := by rintro rfl; exact h2 h1
      simp [h1, h2, h3]
    · by_cases h2 : a < b
      · simp [h1, h2]
      · have h3 : a = b := by
          apply UInt8.toNat_inj.1
          rw [UInt8.lt_iff_toNat_lt] at *; omega
        subst h3
        have hxy : x ≠ y := fun e => h (by rw [e])
        rw [if_neg h1, if_neg h2, ← less_cmp x y hxy]
        simp [h1]

theorem ahead_order (a b : Sy) (h : a.name ≠ b.name) : aheadP a b = !decide (orderP b a < 0) := by
  unfold aheadP orderP
  have hn : a.name.toList ≠ b.name.toList := fun e => h (by
    have := strNe h
    simp [e] at this)
  by_cases hg : a.glob = b.glob
  · rw [if_pos hg, if_pos hg.symm, less_cmp _ _ hn, Lib.toList_data, Lib.toList_data]
  · have hg' : ¬ b.glob = a.glob := fun e => hg e.symm
    rw [if_neg hg, if_neg hg']
    cases ha : a.glob <;> cases hb : b.glob <;> simp_all

theorem allTo_iff {f : Nat → Bool} {n : Nat} : allTo f n = true ↔ ∀ j, j < n → f j = true := by simp [allTo]

/-- Of an object whose symbols may be, each once: order, as one says it and as the other. -/
theorem step_eq (o : Ob) (k : Nat) (hk : k < o.syms.length) (hf : symAt o k = true) : aheadAt o.syms k = (k == 0 || sortAt o.syms k) := by
  by_cases h0 : k = 0
  · subst h0; rfl
  · rw [aheadAt_eq o.syms k (k - 1) rfl (by omega) hk (by omega), sortAt_eq k hk (by omega)]
    have hz : (k == 0) = false := by simpa using h0
    rw [hz, Bool.false_or]
    refine ahead_order _ _ (fun e => ?_)
    have h2 : freshAt (o.syms.map Sy.name) k = true := by
      unfold symAt at hf
      rw [Bool.and_eq_true] at hf
      exact hf.2
    rw [freshAt_eq _ _ (by simpa using hk)] at h2
    simp only [List.getElem_map, Bool.not_eq_true', inT] at h2
    rw [List.any_eq_false] at h2
    have := h2 (o.syms[k - 1]).name (by
      rw [List.mem_take_iff_getElem]
      exact ⟨k - 1, by simp; omega, by simp⟩)
    simp [e] at this

theorem ok_eq (o : Ob) : okR o = okO o := by
  unfold okR okO
  rw [Bool.and_assoc, Bool.and_assoc, Bool.and_assoc]
  congr 1
  congr 1
  rw [Bool.eq_iff_iff, Bool.and_eq_true, allTo_iff, allTo_iff]
  constructor
  · intro h
    have h1 : ∀ j, j < o.syms.length → symAt o j = true := fun j hj => by
      have := h j hj; unfold symAtR at this; rw [Bool.and_eq_true] at this; exact this.1
    refine ⟨h1, sortP_true (fun j h0 hj => ?_)⟩
    have := h j hj
    unfold symAtR at this
    rw [Bool.and_eq_true, step_eq o j hj (h1 j hj)] at this
    have hz : (j == 0) = false := by simp; omega
    rw [hz, Bool.false_or] at this
    exact this.2
  · rintro ⟨h1, h2⟩ j hj
    unfold symAtR
    rw [Bool.and_eq_true, step_eq o j hj (h1 j hj)]
    refine ⟨h1 j hj, ?_⟩
    unfold sortP at h2
    rw [List.all_eq_true] at h2
    exact h2 j (List.mem_range.2 hj)
theorem ck_eq (o : Ob) : ckR o = ckO o := by unfold ckR ckO; rw [ok_eq]
end Go.Proofs.Yteccpmmedpkddaa
