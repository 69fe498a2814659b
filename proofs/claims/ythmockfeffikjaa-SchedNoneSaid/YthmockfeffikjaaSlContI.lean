/-
  The walks of slices.Index and slices.Contains at slices of int.
-/
import Derived.Test.YthmockfeffikjaaInts
namespace Go.Proofs.Ythmockfeffikjaa
open Go.RowKit

/-- Where v stands first, or -1. -/
def idxFrom (v : Int) : List Int → Nat → Int
  | [], _ => -1
  | a :: l, k => if v = a then k else idxFrom v l (k + 1)
theorem idxFrom_iff (v : Int) : ∀ (l : List Int) (k : Nat), 0 ≤ idxFrom v l k ↔ l.contains v = true
  | [], _ => by simp [idxFrom]
  | a :: l, k => by
    have ih := idxFrom_iff v l (k + 1)
    simp only [idxFrom, List.contains_cons]
    by_cases h : v = a
    · simp [h]
    · rw [if_neg h, ih]; simp [h]
theorem idxFrom_ge (v : Int) (l : List Int) (k : Nat) : decide (0 ≤ idxFrom v l k) = l.contains v := by
  rw [Bool.eq_iff_iff, decide_eq_true_iff]; exact idxFrom_iff v l k
theorem idxFrom_drop (v : Int) (l : List Int) (k : Nat) (h : k < l.length) : idxFrom v (l.drop k) k = if v = l[k] then (k : Int) else idxFrom v (l.drop (k + 1)) (k + 1) := by
  rw [List.drop_eq_getElem_cons h]; rfl

set_option maxHeartbeats 1000000 in
theorem indexI_any (p : Option Addr) (c : Nat) (l : List Int) (v : Int) (w : World) (hl : l.length ≤ maxLen) (hrow : Row w p (i64s l)) :
    Calls Try.prog 74 #[.slice p l.length c, i64 v] w fun e w' => e = .returned (i64 (idxFrom v l 0)) ∧ w = w' := by
  unfold maxLen at hl
  go_enter Try.func74, Try.ntmps74
  go_wp2
  go_loop [8] (fun i => ∃ k : Nat, k ≤ l.length ∧ i = .int .i64 k ∧ idxFrom v (l.drop k) k = idxFrom v l 0) (fun i => l.length - (intOf i).toNat)
  case atStart => exact ⟨0, Nat.zero_le _, rfl, by simp⟩
  case round =>
    obtain ⟨k, hk, rfl, he⟩ := hrel
    have HE := hid he
    clear he
    by_cases hlt : k < l.length
    · obtain ⟨b1, o1, rfl, hb1, hz1⟩ := hrow.at (by simp; omega)
      clear hz1
      have c1 := hrow.cell k (by simpa using hlt)
      simp only [i64s, List.getElem_map] at c1
      have HD := hid (idxFrom_drop v l k hlt)
      obtain ⟨x, hx⟩ : ∃ x, x = l[k] := ⟨_, rfl⟩
      rw [← hx] at c1 HD
      clear hx
      by_cases hxv : v = x
      · have hb : (v == x) = true := by simpa using hxv
        have HF : Hid (idxFrom v l 0 = (k : Int)) := by rw [Hid, ← HE.out, HD.out, if_pos hxv]
        clear hxv
        go_wp2
        go_ret
        exact ⟨ret_int (by rw [HF.out]), rfl⟩
      · have hb : (v == x) = false := by simpa using hxv
        have HF : Hid (idxFrom v (l.drop (k + 1)) (k + 1) = idxFrom v l 0) := by rw [Hid, ← HE.out, HD.out, if_neg hxv]
        clear hxv
        go_wp2
        go_round
        case rel => exact ⟨k + 1, by omega, by go_num, HF.out⟩
        case measure => simp [intOf]; omega
    · have hkx : k = l.length := by omega
      have HF : Hid (idxFrom v l 0 = -1) := by rw [Hid, ← HE.out, hkx, List.drop_length]; rfl
      subst hkx
      go_wp2
      go_ret
      exact ⟨ret_int (by rw [HF.out]), rfl⟩

set_option maxHeartbeats 1000000 in
theorem containsI_any (p : Option Addr) (c : Nat) (l : List Int) (v : Int) (w : World) (hl : l.length ≤ maxLen) (hrow : Row w p (i64s l)) :
    Calls Try.prog 66 #[.slice p l.length c, i64 v] w fun e w' => e = .returned (.bool (l.contains v)) ∧ w = w' := by
  have H := hid (indexI_any p c l v w hl hrow)
  have HC := hid (idxFrom_ge v l 0)
  obtain ⟨x, hx⟩ : ∃ x, x = idxFrom v l 0 := ⟨_, rfl⟩
  rw [← hx] at H HC
  clear hx
  go_enter Try.func66, Try.ntmps66
  go_wp2_with (go_at_call 74; refine H.out.mono ?_; rintro e w1 ⟨rfl, rfl⟩)
  go_ret
  exact ⟨ret_bool (by rw [← HC.out]), rfl⟩
end Go.Proofs.Ythmockfeffikjaa
