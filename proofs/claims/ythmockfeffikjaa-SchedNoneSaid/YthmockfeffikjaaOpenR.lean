/-
  What comes in, opened: slices of any elements of a set number of cells, as rows of cells.
-/
import Derived.Test.YthmockfeffikjaaOpen
import Derived.Deep.Grids
namespace Go.Proofs.Ythmockfeffikjaa
open Go.RowKit Go.ChangeShapes Go.WideShapes Go.ChangeAt

theorem flat_len {α : Type} (f : α → List Value) (k : Nat) (hk : ∀ x, (f x).length = k) (xs : List α) : (xs.flatMap f).length = k * xs.length := by
  induction xs with
  | nil => rfl
  | cons a l ih => simp only [List.flatMap_cons, List.length_append, hk, ih, List.length_cons]; rw [Nat.mul_succ]; omega
theorem flat_get {α : Type} (f : α → List Value) (k : Nat) (hk : ∀ x, (f x).length = k) : ∀ (xs : List α) (q : Nat) (h : q < xs.length) (j : Nat) (_ : j < k), (xs.flatMap f)[k * q + j]? = (f xs[q])[j]?
  | [], q, h, _, _ => by simp at h
  | a :: l, 0, _, j, hj => by
    rw [List.flatMap_cons, List.getElem?_append_left (by rw [hk]; omega)]
    simp
  | a :: l, q + 1, h, j, hj => by
    rw [List.flatMap_cons, List.getElem?_append_right (by rw [hk, Nat.mul_succ]; omega), hk]
    have := flat_get f k hk l q (by simpa using h) j hj
    rw [show k * (q + 1) + j - k = k * q + j by rw [Nat.mul_succ]; omega, this]
    simp

theorem flat_one {α : Type} (f : α → Value) (xs : List α) : xs.flatMap (fun b => [f b]) = xs.map f := by
  induction xs with
  | nil => rfl
  | cons a l ih => simp only [List.flatMap_cons, List.map_cons, ih]; rfl

section
variable {H : Type} {enc : TypeId × Value → H} {P : Program} {W : World}

theorem open_rowGen {α : Type} (f : α → List Value) (ok : α → Prop) {t e : TypeId} {base k : Nat} {v : Value} {d : DataW H} {ps : List MemPlace} (ht : P.underlying t = some (.slice e)) (hc : P.cellsOf e = k) (hk0 : 0 < k) (hk : ∀ x, (f x).length = k)
    (hel : ∀ (n : Nat) (cs : List Value) (y : DataW H × List MemPlace), DataW.trod enc P W 0 (fun _ => true) true n e cs = some y → ∃ x, cs = f x ∧ ok x)
    (hv : Value.okWide P W .any base t v) (h : DataW.Trod enc P W 0 (fun _ => true) true t v d ps) :
    ∃ (p : Option Addr) (c : Nat) (xs : List α), v = .slice p xs.length c ∧ xs.length ≤ c ∧ c ≤ maxLen ∧ Row W p (xs.flatMap f) ∧ (∀ x ∈ xs, ok x) ∧ (p = none → c = 0) := by
  obtain ⟨a1, len1, cap1, rfl⟩ := okWide_slice ht hv
  obtain ⟨fuel, hf⟩ := h
  rcases Go.Deep.open_slice ht hf with ⟨hcs, _⟩ | ⟨a, len, cap, m, n, D, Pl, hcs, _, hl, hm, hmm, _, hx⟩
  · simp [Value.cells] at hcs
    obtain ⟨rfl, rfl, rfl⟩ := hcs
    exact ⟨none, 0, [], rfl, Nat.le_refl _, Nat.zero_le _, Row.nil _ _, by simp, fun _ => rfl⟩
  · simp [Value.cells] at hcs
    obtain ⟨rfl, rfl, rfl⟩ := hcs
    simp only [if_true] at hmm
    subst hmm
    have each : ∀ i, i < len1 → ∃ x, ok x ∧ W.cells? 0 (a.add (i * k)) k = some (f x) := fun i hi => by
      obtain ⟨cs', h1, h2⟩ := hx i (by omega)
      obtain ⟨x, rfl, hok⟩ := hel _ _ _ h2
      rw [hc] at h1
      exact ⟨x, hok, h1⟩
    have build : ∀ j, j ≤ len1 → ∃ xs : List α, xs.length = j ∧ ∀ i (hi : i < xs.length), ok xs[i] ∧ W.cells? 0 (a.add (i * k)) k = some (f xs[i]) := by
      intro j
      induction j with
      | zero => exact fun _ => ⟨[], rfl, by simp⟩
      | succ j ih =>
        intro hj
        obtain ⟨xs, hxl, hxs⟩ := ih (by omega)
        obtain ⟨x, hok, hce⟩ := each j (by omega)
        refine ⟨xs ++ [x], by simp [hxl], fun i hi => ?_⟩
        by_cases hij : i < xs.length
        · rw [List.getElem_append_left hij]; exact hxs i hij
        · have : i = xs.length := by simp at hi; omega
          subst this
          rw [← hxl] at hce
          simp only [List.getElem_append_right (Nat.le_refl _), Nat.sub_self, List.getElem_singleton]
          exact ⟨hok, hce⟩
    obtain ⟨xs, hxl, hxs⟩ := build len1 (Nat.le_refl _)
    refine ⟨some a, m, xs, by rw [hxl], by rw [hxl]; exact hl, hm, ?_, fun x hxm => ?_, by simp⟩
    · refine row_of_cells fun i hi => ?_
      rw [flat_len f k hk] at hi
      have hq : i / k < xs.length := (Nat.div_lt_iff_lt_mul hk0).2 (by rw [Nat.mul_comm]; exact hi)
      have hr := Nat.mod_lt i hk0
      have hi2 : k * (i / k) + i % k = i := Nat.div_add_mod i k
      obtain ⟨_, hlen, hcell⟩ := World.cells?_some (hxs _ hq).2
      have e1 := hcell (i % k) hr
      have e2 := flat_get f k hk xs (i / k) hq (i % k) hr
      rw [hi2] at e2
      have e3 : (a.add (i / k * k)).add (i % k) = a.add i := by rw [Go.Deep.add_add, Nat.mul_comm, hi2]
      rw [e3] at e1
      rw [e1, ← e2]
      exact List.getElem?_eq_getElem _
    · obtain ⟨i, hi, rfl⟩ := List.getElem_of_mem hxm
      exact (hxs i hi).1

/-- A slice of bools that came in. -/
theorem open_boolsRow {t e : TypeId} {base : Nat} {v : Value} {d : DataW H} {ps : List MemPlace} (ht : P.underlying t = some (.slice e)) (he : P.underlying e = some .bool) (hc : P.cellsOf e = 1)
    (hv : Value.okWide P W .any base t v) (h : DataW.Trod enc P W 0 (fun _ => true) true t v d ps) :
    ∃ (p : Option Addr) (c : Nat) (xs : List Bool), v = .slice p xs.length c ∧ xs.length ≤ c ∧ c ≤ maxLen ∧ Row W p (xs.map Value.bool) ∧ (p = none → c = 0) := by
  obtain ⟨p, c, xs, h1, h2, h3, h4, _, h5⟩ := open_rowGen (k := 1) (fun b : Bool => [Value.bool b]) (fun _ => True) ht hc (by decide) (fun _ => rfl) (fun n cs y hy => by
    obtain ⟨b, h1, _⟩ := DataW.trod_bool he hy
    exact ⟨b, h1, trivial⟩) hv h
  refine ⟨p, c, xs, h1, h2, h3, ?_, h5⟩
  rwa [flat_one] at h4
end
end Go.Proofs.Ythmockfeffikjaa
