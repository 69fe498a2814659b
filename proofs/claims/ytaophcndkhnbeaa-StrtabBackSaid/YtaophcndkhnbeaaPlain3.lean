/-
  What follows of a table that is built: its beginning, each name once.
-/
import Derived.Test.YtaophcndkhnbeaaPlain2
namespace Go.Proofs.Ytaophcndkhnbeaa

theorem bstep_more (s : BSt) (n : ByteArray) : s.tab <+: (bstep s n).tab ∧ s.places <+: (bstep s n).places ∧ (s.long = true → (bstep s n).long = true) := by
  refine ⟨?_, ?_, bstep_long s n⟩
  · unfold bstep
    split
    · exact List.prefix_refl _
    · dsimp only
      split
      · exact List.prefix_refl _
      · rw [List.append_assoc]; exact List.prefix_append _ _
  · unfold bstep
    split <;> exact List.prefix_append _ _

theorem bst_more (ys : List ByteArray) : ∀ s : BSt, s.tab <+: (ys.foldl bstep s).tab ∧ s.places <+: (ys.foldl bstep s).places ∧ (s.long = true → (ys.foldl bstep s).long = true) := by
  induction ys with
  | nil => intro s; exact ⟨List.prefix_refl _, List.prefix_refl _, id⟩
  | cons n r ih =>
    intro s
    obtain ⟨a1, a2, a3⟩ := bstep_more s n
    obtain ⟨b1, b2, b3⟩ := ih (bstep s n)
    exact ⟨a1.trans b1, a2.trans b2, fun h => b3 (a3 h)⟩

theorem buildP_ok (xs : List ByteArray) (h : (buildP xs).2.2 = 0) : xs.any hasZero = false ∧ (bst xs).long = false ∧ buildP xs = ((bst xs).tab, (bst xs).places, 0) := by
  unfold buildP at h ⊢
  split at h
  · simp at h
  · rename_i h1
    split at h
    · simp at h
    · rename_i h2
      simp at h1 h2
      exact ⟨by simpa using h1, h2, by simp [h2]; simpa using h1⟩

theorem buildP_take (xs : List ByteArray) (k : Nat) (hk : k ≤ xs.length) (h : (buildP xs).2.2 = 0) :
    (buildP (xs.take k)).2.2 = 0 ∧ (buildP (xs.take k)).1 <+: (buildP xs).1 ∧ (buildP (xs.take k)).2.1 = (buildP xs).2.1.take k := by
  obtain ⟨h1, h2, h3⟩ := buildP_ok xs h
  have e : bst xs = (xs.drop k).foldl bstep (bst (xs.take k)) := by
    unfold bst
    rw [← List.foldl_append, List.take_append_drop]
  obtain ⟨b1, b2, b3⟩ := bst_more (xs.drop k) (bst (xs.take k))
  rw [← e] at b1 b2 b3
  have hz : (xs.take k).any hasZero = false := by
    rw [List.any_eq_false] at h1 ⊢
    intro x hx
    exact h1 x (List.mem_of_mem_take hx)
  have hl : (bst (xs.take k)).long = false := by
    cases h : (bst (xs.take k)).long with
    | false => rfl
    | true => rw [b3 h] at h2; cases h2
  have hb : buildP (xs.take k) = ((bst (xs.take k)).tab, (bst (xs.take k)).places, 0) := by simp [buildP, hz, hl]
  rw [hb, h3]
  refine ⟨rfl, b1, ?_⟩
  have hlen := bst_places (xs.take k)
  rw [List.length_take, Nat.min_eq_left hk] at hlen
  have := List.prefix_iff_eq_take.1 b2
  rw [hlen] at this
  exact this

/-- Where the table ends ahead of name k. -/
def lenAt (xs : List ByteArray) (k : Nat) : Nat := (rst xs k).1.length

theorem lenAt_succ (xs : List ByteArray) (k : Nat) (hk : k < xs.length) :
    lenAt xs (k + 1) = if xs[k] ≠ ByteArray.empty ∧ ¬ firstOf xs xs[k] < k then lenAt xs k + (xs[k].size + 1) else lenAt xs k := by
  have e : xs.getD k ByteArray.empty = xs[k] := by simp [hk]
  have e2 : xs[k].data.toList.length = xs[k].size := by rw [Array.length_toList]; rfl
  unfold lenAt
  rw [rst, e, rstep]
  by_cases h1 : xs[k] = ByteArray.empty
  · simp [h1]
  · rw [if_neg h1]
    by_cases h2 : firstOf xs xs[k] < k
    · simp [h2]
    · rw [if_neg h2, if_pos ⟨h1, h2⟩]
      simp only [List.length_append, List.length_cons, List.length_nil, e2]
      omega

theorem lenAt_mono (xs : List ByteArray) (i j : Nat) (hij : i ≤ j) (hj : j ≤ xs.length) : lenAt xs i ≤ lenAt xs j := by
  induction j with
  | zero => have : i = 0 := by omega
            subst this; exact Nat.le_refl _
  | succ j ih =>
    rcases Nat.lt_or_ge i (j + 1) with h | h
    · have h1 := ih (by omega) (by omega)
      have h2 := lenAt_succ xs j (by omega)
      rw [h2]
      split <;> omega
    · have : i = j + 1 := by omega
      subst this; exact Nat.le_refl _

/-- Where name i begins. -/
def placeOf (xs : List ByteArray) (x : ByteArray) : Int := if x = ByteArray.empty then 0 else (lenAt xs (firstOf xs x) : Int)

theorem rst_place (xs : List ByteArray) : ∀ k, k ≤ xs.length → ∀ i, (h : i < k) → (rst xs k).2.getD i 0 = placeOf xs (xs.getD i ByteArray.empty)
  | 0, _, i, h => by omega
  | k + 1, hk, i, h => by
    have e : xs.getD k ByteArray.empty = xs[k] := by simp [show k < xs.length by omega]
    have hpl := rst_places xs k
    have ih := rst_place xs k (by omega)
    have hfl := firstOf_le xs k (by omega)
    have low : ∀ v, i < k → ((rst xs k).2 ++ [v]).getD i 0 = placeOf xs (xs.getD i ByteArray.empty) := fun v hi => by
      rw [getD_snoc_lt _ _ _ (by omega)]; exact ih i hi
    have top : ∀ v, i = k → v = placeOf xs xs[k] → ((rst xs k).2 ++ [v]).getD i 0 = placeOf xs (xs.getD i ByteArray.empty) := fun v hi hv => by
      subst hi
      rw [e, ← hv]
      have := getD_snoc_eq (rst xs i).2 v
      rw [hpl] at this
      exact this
    have both : ∀ v, v = placeOf xs xs[k] → ((rst xs k).2 ++ [v]).getD i 0 = placeOf xs (xs.getD i ByteArray.empty) := fun v hv => by
      by_cases hi : i < k
      · exact low v hi
      · exact top v (by omega) hv
    rw [rst, e, rstep]
    by_cases h1 : xs[k] = ByteArray.empty
    · rw [if_pos h1]; exact both 0 (by simp [placeOf, h1])
    · rw [if_neg h1]
      by_cases h2 : firstOf xs xs[k] < k
      · rw [if_pos h2]
        refine both _ ?_
        rw [ih _ h2]
        have e3 : xs.getD (firstOf xs xs[k]) ByteArray.empty = xs[k] := by
          have := firstOf_get xs xs[k] (firstOf xs xs[k]) (by omega) rfl
          simp [show firstOf xs xs[k] < xs.length by omega, this]
        rw [e3]
      · rw [if_neg h2]
        refine both _ ?_
        have : firstOf xs xs[k] = k := by omega
        simp [placeOf, h1, this, lenAt]

theorem place_inj (xs : List ByteArray) (i k : Nat) (hi : i < xs.length) (hk : k < xs.length) : (placeOf xs xs[i] = placeOf xs xs[k]) ↔ xs[i] = xs[k] := by
  constructor
  · intro h
    have pos : ∀ j, 1 ≤ lenAt xs j := fun j => rst_tab_pos xs j
    have step : ∀ j (hj : j < xs.length), xs[j] ≠ ByteArray.empty → lenAt xs (firstOf xs xs[j]) < lenAt xs (firstOf xs xs[j] + 1) := by
      intro j hj hne
      have hf := firstOf_le xs j hj
      have hg := firstOf_get xs xs[j] (firstOf xs xs[j]) (by omega) rfl
      have := lenAt_succ xs (firstOf xs xs[j]) (by omega)
      rw [hg, if_pos ⟨hne, by omega⟩] at this
      omega
    unfold placeOf at h
    by_cases h1 : xs[i] = ByteArray.empty
    · by_cases h2 : xs[k] = ByteArray.empty
      · rw [h1, h2]
      · rw [if_pos h1, if_neg h2] at h
        have := pos (firstOf xs xs[k]); omega
    · by_cases h2 : xs[k] = ByteArray.empty
      · rw [if_neg h1, if_pos h2] at h
        have := pos (firstOf xs xs[i]); omega
      · rw [if_neg h1, if_neg h2] at h
        have s1 := step i hi h1
        have s2 := step k hk h2
        have f1 := firstOf_le xs i hi
        have f2 := firstOf_le xs k hk
        have g1 := firstOf_get xs xs[i] (firstOf xs xs[i]) (by omega) rfl
        have g2 := firstOf_get xs xs[k] (firstOf xs xs[k]) (by omega) rfl
        rcases Nat.lt_trichotomy (firstOf xs xs[i]) (firstOf xs xs[k]) with hl | hl | hl
        · have := lenAt_mono xs (firstOf xs xs[i] + 1) (firstOf xs xs[k]) hl (by omega); omega
        · rw [← g1, ← g2]; simp only [hl]
        · have := lenAt_mono xs (firstOf xs xs[k] + 1) (firstOf xs xs[i]) hl (by omega); omega
  · intro h; rw [h]

theorem mem_take_iff (xs : List ByteArray) (k : Nat) (hk : k < xs.length) : xs[k] ∈ xs.take k ↔ firstOf xs xs[k] < k := by
  constructor
  · intro h
    obtain ⟨j, hj, e⟩ := List.mem_iff_getElem.1 h
    have hjk : j < k := by simp at hj; omega
    have e2 : xs[j] = xs[k] := by rw [← e, List.getElem_take]
    have hf := firstOf_le xs j (by omega)
    rw [e2] at hf
    omega
  · intro h
    have hg := firstOf_get xs xs[k] (firstOf xs xs[k]) (by omega) rfl
    refine List.mem_iff_getElem.2 ⟨firstOf xs xs[k], by simp; omega, ?_⟩
    rw [List.getElem_take]
    exact hg
end Go.Proofs.Ytaophcndkhnbeaa
