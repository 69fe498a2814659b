/-
  Plain facts on what an access makes of a cell.
-/
import Derived.Test.YthmockfeffikjaaOne
namespace Go.Proofs.Ythmockfeffikjaa
open Go.RowKit

theorem oneP_err (x : Ce) (wk : Int) (a : Ac) (h : (oneP x wk a).2.2 ≠ 0) : (oneP x wk a).1 = x ∧ (oneP x wk a).2.1 = 0 := by
  unfold oneP at h ⊢
  split
  · exact ⟨rfl, rfl⟩
  · split
    · exact ⟨rfl, rfl⟩
    · rename_i h1 h2
      rw [if_neg h1, if_neg h2] at h
      exact stepP_err x wk a h

theorem cameN_append {l : List Int} {v : Int} (h : cameN l l.length = true) (hv : isW v = true) (hc : l.contains v = false) : cameN (l ++ [v]) (l ++ [v]).length = true := by
  rw [List.length_append, List.length_singleton, cameN_succ]
  have e1 : cameN (l ++ [v]) l.length = cameN l l.length := by
    unfold cameN
    rw [Bool.eq_iff_iff, List.all_eq_true, List.all_eq_true]
    have each : ∀ i ∈ List.range l.length, (isW ((l ++ [v]).getD i 0) && !((l ++ [v]).take i).contains ((l ++ [v]).getD i 0)) = (isW (l.getD i 0) && !(l.take i).contains (l.getD i 0)) := fun i hi => by
      have hi := List.mem_range.1 hi
      have e : (l ++ [v]).getD i 0 = l.getD i 0 := by simp [List.getD, List.getElem?_append_left hi]
      rw [e, List.take_append_of_le_length (by omega)]
    exact ⟨fun g i hi => by rw [← each i hi]; exact g i hi, fun g i hi => by rw [each i hi]; exact g i hi⟩
  have e2 : (l ++ [v]).getD l.length 0 = v := by simp [List.getD]
  have e3 : (l ++ [v]).take l.length = l := by simp
  rw [e1, e2, e3, h, hv, hc]
  rfl

theorem gateP_iff (x : Ce) : gateP x = true ↔ 1 ≤ x.need ∧ x.need ≤ 64 ∧ (x.came.length : Int) < x.need ∧ 0 ≤ x.turns ∧ x.turns ≤ 1152921504606846976 ∧ cameN x.came x.came.length = true := by
  simp only [gateP, gateHead, Bool.and_eq_true, decide_eq_true_eq]
  exact ⟨fun ⟨⟨⟨⟨⟨a, b⟩, c⟩, d⟩, e⟩, f⟩ => ⟨a, b, c, d, e, f⟩, fun ⟨a, b, c, d, e, f⟩ => ⟨⟨⟨⟨⟨a, b⟩, c⟩, d⟩, e⟩, f⟩⟩

theorem stepP_ok (x : Ce) (wk : Int) (a : Ac) (hok : okP x = true) (hw : isW wk = true) (h : (stepP x wk a).2.2 = 0) : okP (stepP x wk a).1 = true := by
  obtain ⟨kind, n, owner, need, came, turns, there⟩ := x
  rcases okP_kind _ hok with hk | hk | hk | hk <;> (dsimp only at hk; subst hk)
  · unfold stepP at h ⊢
    simp only [reduceIte, Int.reduceEq] at h ⊢
    split
    · exact hok
    · split
      · split
        · simpa [okP] using hok
        · exact hok
      · split
        · simpa [okP] using hok
        · exact hok
  · unfold stepP at h ⊢
    simp only [reduceIte, Int.reduceEq] at h ⊢
    simp [okP] at hok
    split
    · split
      · simpa [okP] using hok
      · split
        · simp [okP, hw, hok]
        · simpa [okP] using hok
    · split
      · split
        · simp [okP, hok]
        · simpa [okP] using hok
      · simpa [okP] using hok
  · unfold stepP at h ⊢
    simp only [reduceIte, Int.reduceEq] at h ⊢
    simp [okP] at hok
    obtain ⟨⟨⟨hg, hn⟩, ho⟩, ht⟩ := hok
    have hg2 := (gateP_iff _).1 hg
    dsimp only at hg2
    obtain ⟨g1, g2, g3, g4, g5, g6⟩ := hg2
    subst hn ho ht
    have hself : okP ⟨3, 0, -1, need, came, turns, false⟩ = true := by simp [okP, hg]
    split
    · split
      · exact hself
      · exact hself
    · split
      · split
        · exact hself
        · split
          · exact hself
          · split
            · have : gateP ⟨3, 0, -1, need, [], turns + 1, false⟩ = true := by
                rw [gateP_iff]; dsimp only
                refine ⟨g1, g2, by simp; omega, by omega, by omega, by simp [cameN]⟩
              simp [okP, this]
            · rename_i hc _ _
              have : gateP ⟨3, 0, -1, need, came ++ [wk], turns, false⟩ = true := by
                rw [gateP_iff]; dsimp only
                refine ⟨g1, g2, by simp; omega, g4, g5, cameN_append g6 hw (by simpa using hc)⟩
              simp [okP, this]
      · exact hself
  · unfold stepP at h ⊢
    simp only [reduceIte, Int.reduceEq] at h ⊢
    simp [okP] at hok
    split
    · split
      · simpa [okP] using hok
      · simp [okP, hok]
    · split
      · split
        · simpa [okP] using hok
        · simpa [okP] using hok
      · simpa [okP] using hok
theorem oneP_ok (x : Ce) (wk : Int) (a : Ac) (h : (oneP x wk a).2.2 = 0) : okP (oneP x wk a).1 = true := by
  unfold oneP at h ⊢
  split
  · rename_i h1; rw [if_pos h1] at h; exact absurd h (by simp)
  · rename_i h1
    rw [if_neg h1] at h
    split
    · rename_i h2; rw [if_pos h2] at h; exact absurd h (by simp)
    · rename_i h2
      rw [if_neg h2] at h
      exact stepP_ok x wk a (by simpa using h1) (by simpa using h2) h
theorem ok_came {x : Ce} (h : okP x = true) : x.came.length ≤ 64 := by
  obtain ⟨kind, n, owner, need, came, turns, there⟩ := x
  rcases okP_kind _ h with hk | hk | hk | hk <;> (dsimp only at hk; subst hk)
  · simp [okP] at h; simp [h]
  · simp [okP] at h; simp [h]
  · simp [okP] at h
    have := (gateP_iff _).1 h.1.1.1
    dsimp only at this ⊢
    omega
  · simp [okP] at h; simp [h]
theorem oneP_came (x : Ce) (wk : Int) (a : Ac) : (oneP x wk a).1.came.length ≤ x.came.length ∨ (oneP x wk a).1.came.length ≤ 64 := by
  by_cases h : (oneP x wk a).2.2 = 0
  · exact .inr (ok_came (oneP_ok x wk a h))
  · exact .inl (by rw [(oneP_err x wk a h).1]; exact Nat.le_refl _)
end Go.Proofs.Ythmockfeffikjaa
