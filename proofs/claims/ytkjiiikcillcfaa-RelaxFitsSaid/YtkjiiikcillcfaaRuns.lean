/-
  Rounds upon rounds, in plain lists.
-/
import Derived.Test.YtkjiiikcillcfaaFits
namespace Go.Proofs.Ytkjiiikcillcfaa
open Go.RowKit

def runs (xs : List It) : Nat → List Bool → List (List Bool)
  | 0, _ => []
  | f + 1, ls => roundP xs ls :: (if moreP xs ls = 0 then [] else runs xs f (roundP xs ls))
def zeros (xs : List It) : List Bool := List.replicate xs.length false
/-- What Rounds goes through, of items that may be. -/
def roundsP (xs : List It) : List (List Bool) := if checkP xs = 0 then runs xs (xs.length + 1) (zeros xs) else []

/-- Only branches are long; as many as items. -/
structure Fair (xs : List It) (ls : List Bool) : Prop where
  len : ls.length = xs.length
  br : ∀ k (h : k < xs.length), ls.getD k false = true → xs[k].kind = 3

theorem fair_zeros (xs : List It) : Fair xs (zeros xs) := ⟨by simp [zeros], fun k h e => by simp [zeros, List.getD, h] at e⟩
theorem getD_round (xs : List It) (ls : List Bool) (k : Nat) : (roundP xs ls).getD k false = roundAt xs ls k := by
  by_cases h : k < xs.length
  · simp [roundP, List.getD, h]
  · simp [roundP, List.getD, h, roundAt]
theorem fair_round (xs : List It) (ls : List Bool) : Fair xs (roundP xs ls) := ⟨roundP_len xs ls, fun k h e => by
  rw [getD_round] at e
  simp only [roundAt, List.getElem?_eq_getElem h] at e
  simp at e
  exact e.1⟩
theorem fair_keeps {xs : List It} {ls : List Bool} (hf : Fair xs ls) (k : Nat) (h : ls.getD k false = true) : roundAt xs ls k = true := by
  by_cases hk : k < xs.length
  · simp only [roundAt, List.getElem?_eq_getElem hk, h, hf.br k hk h]
    simp
  · have : ls.length ≤ k := by rw [hf.len]; omega
    simp [List.getD, List.getElem?_eq_none this] at h

/-- How many are long, of the first k. -/
def cntN (ls : List Bool) (k : Nat) : Nat := ((List.range k).filter (fun j => ls.getD j false)).length
theorem cntN_succ (ls : List Bool) (k : Nat) : cntN ls (k + 1) = cntN ls k + (if ls.getD k false then 1 else 0) := by
  simp only [cntN, List.range_succ, List.filter_append, List.length_append]
  cases h : ls.getD k false
  · rw [List.filter_cons_of_neg (by simpa using h)]; simp
  · rw [List.filter_cons_of_pos (by simpa using h)]; simp
theorem cntN_le (ls : List Bool) (k : Nat) : cntN ls k ≤ k := by
  have := List.length_filter_le (fun j => ls.getD j false) (List.range k)
  simpa [cntN] using this
theorem cnt_round {xs : List It} {ls : List Bool} (hf : Fair xs ls) (k : Nat) : cntN (roundP xs ls) k = cntN ls k + moreN xs ls k := by
  induction k with
  | zero => simp [cntN, moreN]
  | succ k ih =>
    rw [cntN_succ, cntN_succ, moreN_succ, ih, getD_round]
    have h1 := fair_keeps hf k
    unfold moreAt
    cases h2 : ls.getD k false
    · cases h3 : roundAt xs ls k <;> simp <;> omega
    · rw [h1 h2]; simp; omega

theorem off_ok {xs : List It} {ls : List Bool} (hc : checkP xs = 0) (hf : Fair xs ls) : offErr xs ls = 0 := by simp [offErr, hc, hf.len]
theorem rd_ok {xs : List It} {ls : List Bool} (hc : checkP xs = 0) (hf : Fair xs ls) : rdRes xs ls = roundP xs ls ∧ rdMore xs ls = moreP xs ls := by
  have := off_ok hc hf
  simp [rdRes, rdMore, this]
/-- The fuel is enough. -/
theorem runs_step {xs : List It} {ls : List Bool} (hf : Fair xs ls) (f : Nat) (h : xs.length < cntN ls xs.length + (f + 1)) (hm : moreP xs ls ≠ 0) : xs.length < cntN (roundP xs ls) xs.length + f ∧ runs xs (f + 1) ls = roundP xs ls :: runs xs f (roundP xs ls) := by
  have := cnt_round hf xs.length
  refine ⟨?_, by rw [runs, if_neg hm]⟩
  rw [this]
  unfold moreP at hm
  omega
theorem runs_last (xs : List It) (ls : List Bool) (f : Nat) (hm : moreP xs ls = 0) : runs xs (f + 1) ls = [roundP xs ls] := by
  rw [runs, if_pos hm]
end Go.Proofs.Ytkjiiikcillcfaa
