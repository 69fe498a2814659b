/-
  What comes in, opened: slices of strings and of integers as rows of cells.
  What comes in, opened: slices of any elements of a set number of cells, as rows of cells.
  What comes in, opened type by type: each type's cells as those of a value of its own.
-/
import Derived.Test.YthmockfeffikjaaJE0
import Derived.ProofKit
import Derived.OpenShut
import Derived.ShutString
import Derived.ChangeOld
import Derived.SizedLaws
import Derived.SliceStrings
import Derived.Deep.Grids
namespace Go.Proofs.Ythmockfeffikjaa
open Go.RowKit Go.ChangeShapes Go.WideShapes Go.ChangeAt

section
variable {H : Type} {enc : TypeId × Value → H} {P : Program} {W : World}

theorem row_of_cells {p : Addr} {cs : List Value} (h : ∀ i (h : i < cs.length), W.cell? (p.add i) = some cs[i]) : Row W (some p) cs := by
  intro hne
  have h0 : 0 < cs.length := by cases cs with | nil => exact absurd rfl hne | cons a l => simp
  obtain ⟨b, o, s⟩ := p
  have hs : s = none := by
    have := h 0 h0
    cases s with
    | none => rfl
    | some x =>
      have e : (⟨b, o, some x⟩ : Addr).add 0 = ⟨b, o, some x⟩ := by simp [Addr.add]
      rw [e] at this
      simp only [World.cell?] at this
      split at this <;> simp at this
  subst hs
  exact ⟨b, o, rfl, fun i hi => by rw [← addr_add]; exact h i hi⟩

/-- A slice of strings that came in. -/
theorem open_strsRow {t e : TypeId} {base : Nat} {v : Value} {d : DataW H} {ps : List MemPlace} (ht : P.underlying t = some (.slice e)) (he : P.underlying e = some .string) (hc : P.cellsOf e = 1)
    (hv : Value.okWide P W .any base t v) (h : DataW.Trod enc P W 0 (fun _ => true) true t v d ps) :
    ∃ (p : Option Addr) (c : Nat) (xs sp : List ByteArray), v = .slice p xs.length c ∧ xs.length ≤ c ∧ c ≤ maxLen ∧ Row W p (xs.map Value.string) ∧ (∀ s ∈ xs, s.size ≤ maxLen) ∧ (p = none → c = 0) ∧
      ((d = .nil ∧ xs = []) ∨ d = .slice (strs xs) (strs sp)) := by
  obtain ⟨a1, len1, cap1, rfl⟩ := okWide_slice ht hv
  obtain ⟨fuel, hf⟩ := h
  rcases open_strings ht he hc hf with ⟨hcs, hx⟩ | ⟨a, len, cap, ss, hcs, _, hl, hm, hz, hx, hcell, hws⟩
  · simp [Value.cells] at hcs
    obtain ⟨rfl, rfl, rfl⟩ := hcs
    simp only [Prod.mk.injEq] at hx
    exact ⟨none, 0, [], [], rfl, Nat.le_refl _, Nat.zero_le _, Row.nil _ _, by simp, fun _ => rfl, .inl ⟨hx.1, rfl⟩⟩
  · simp [Value.cells] at hcs
    obtain ⟨rfl, rfl, rfl⟩ := hcs
    simp only [Prod.mk.injEq] at hx
    have hlen : (ss.take len1).length = len1 := by simp at hz; simp; omega
    refine ⟨some a, cap1, ss.take len1, ss.drop len1, by rw [hlen], by rw [hlen]; exact hl, hm, ?_, fun s hs => hws s (List.mem_of_mem_take hs), by simp, .inr hx.1⟩
    refine row_of_cells fun i hi => ?_
    have hi' : i < len1 := by simp at hi; omega
    have hi2 : i < ss.length := by simp at hz; omega
    rw [hcell i hi2]
    simp [List.getD, hi2]

theorem reach_strs {ts : List TypeId} {ds : List (DataW H)} {t e : TypeId} (ht : P.underlying t = some (.slice e)) (h : (DataW.weightsEach P ts ds).all (· ≤ reachBytes) = true) {j : Nat} {xs sp : List ByteArray} {d : DataW H}
    (h1 : ts[j]? = some t) (h2 : ds[j]? = some d) (hd : (d = .nil ∧ xs = []) ∨ d = .slice (strs xs) (strs sp)) : ∀ s ∈ xs, s.size ≤ 140737488351232 := by
  intro s hs
  rcases hd with ⟨_, hx⟩ | hd
  · subst hx; cases hs
  · have hmem : s.size ∈ d.weights P t := by
      rw [hd, DataW.weights, ht]
      refine List.mem_cons_of_mem _ (List.mem_append_left _ ?_)
      clear h2 hd
      induction xs with
      | nil => cases hs
      | cons a l ih =>
        simp only [strs, List.map_cons, DataW.weightsAll]
        rcases List.mem_cons.1 hs with rfl | hs
        · refine List.mem_append_left _ ?_
          simp [DataW.weights]
        · exact List.mem_append_right _ (ih hs)
    have := List.all_eq_true.1 h _ (DataW.weights_mem_each h1 h2 _ hmem)
    have h4 : s.size ≤ reachBytes := by simpa using this
    have h5 : reachBytes = 140737488351232 := by decide
    omega

/-- A slice of integers that came in. -/
theorem open_intsRow {t e : TypeId} {k : IntKind} {base : Nat} {v : Value} {d : DataW H} {ps : List MemPlace} (ht : P.underlying t = some (.slice e)) (he : P.underlying e = some (.int k)) (hc : P.cellsOf e = 1)
    (hv : Value.okWide P W .any base t v) (h : DataW.Trod enc P W 0 (fun _ => true) true t v d ps) :
    ∃ (p : Option Addr) (c : Nat) (xs : List Int), v = .slice p xs.length c ∧ xs.length ≤ c ∧ c ≤ maxLen ∧ Row W p (xs.map (Value.int k)) ∧ (∀ n ∈ xs, (Lit.int k n).wf = true) ∧ (p = none → c = 0) := by
  obtain ⟨a1, len1, cap1, rfl⟩ := okWide_slice ht hv
  obtain ⟨fuel, hf⟩ := h
  rcases open_ints ht he hc hf with ⟨hcs, _⟩ | ⟨a, len, cap, zs, hcs, _, hl, hm, hz, _, hcell, hwz⟩
  · simp [Value.cells] at hcs
    obtain ⟨rfl, rfl, rfl⟩ := hcs
    exact ⟨none, 0, [], rfl, Nat.le_refl _, Nat.zero_le _, Row.nil _ _, by simp, fun _ => rfl⟩
  · simp [Value.cells] at hcs
    obtain ⟨rfl, rfl, rfl⟩ := hcs
    have hlen : (zs.take len1).length = len1 := by simp at hz; simp; omega
    refine ⟨some a, cap1, zs.take len1, by rw [hlen], by rw [hlen]; exact hl, hm, ?_, fun s hs => hwz s (List.mem_of_mem_take hs), by simp⟩
    refine row_of_cells fun i hi => ?_
    have hi' : i < len1 := by simp at hi; omega
    have hi2 : i < zs.length := by simp at hz; omega
    rw [hcell i hi2]
    simp [List.getD, hi2]
end
end Go.Proofs.Ythmockfeffikjaa
namespace Go.Proofs.Ythmockfeffikjaa
open Go.RowKit Go.ChangeShapes Go.WideShapes Go.ChangeAt

theorem flat_len {α : Type} (f : α → List Value) (k : Nat) (hk : ∀ x, (f x).length = k) (xs : List α) : (xs.flatMap f).length = k * xs.length := by
  induction xs with
  | nil => rfl
  | cons a l ih => simp only [List.flatMap_cons, List.length_append, hk, ih, List.length_cons]; rw [Nat.mul_succ]; omega
theorem flat_get {α : Type} (f : α → List Value) (k : Nat) (hk : ∀ x, (f x).length = k) : ∀ (xs : List α) (q : Nat) (h : q < xs.length) (j : Nat) (_ : j < k), (xs.flatMap f)[k * q + j]? = (f xs[q])[j]?
  | [], q, h, _, _ => by simp at h
  | a :: l, 0, _, j, hj => by
    rw [List.flatMap_cons, List.getElem?_append_left (by rw [hk]; omega)]
    simp
  | a :: l, q + 1, h, j, hj => by
    rw [List.flatMap_cons, List.getElem?_append_right (by rw [hk, Nat.mul_succ]; omega), hk]
    have := flat_get f k hk l q (by simpa using h) j hj
    rw [show k * (q + 1) + j - k = k * q + j by rw [Nat.mul_succ]; omega, this]
    simp

theorem flat_one {α : Type} (f : α → Value) (xs : List α) : xs.flatMap (fun b => [f b]) = xs.map f := by
  induction xs with
  | nil => rfl
  | cons a l ih => simp only [List.flatMap_cons, List.map_cons, ih]; rfl

section
variable {H : Type} {enc : TypeId × Value → H} {P : Program} {W : World}

theorem open_rowGen {α : Type} (f : α → List Value) (ok : α → Prop) {t e : TypeId} {base k : Nat} {v : Value} {d : DataW H} {ps : List MemPlace} (ht : P.underlying t = some (.slice e)) (hc : P.cellsOf e = k) (hk0 : 0 < k) (hk : ∀ x, (f x).length = k)
    (hel : ∀ (n : Nat) (cs : List Value) (y : DataW H × List MemPlace), DataW.trod enc P W 0 (fun _ => true) true n e cs = some y → ∃ x, cs = f x ∧ ok x)
    (hv : Value.okWide P W .any base t v) (h : DataW.Trod enc P W 0 (fun _ => true) true t v d ps) :
    ∃ (p : Option Addr) (c : Nat) (xs : List α), v = .slice p xs.length c ∧ xs.length ≤ c ∧ c ≤ maxLen ∧ Row W p (xs.flatMap f) ∧ (∀ x ∈ xs, ok x) ∧ (p = none → c = 0) := by
  obtain ⟨a1, len1, cap1, rfl⟩ := okWide_slice ht hv
  obtain ⟨fuel, hf⟩ := h
  rcases Go.Deep.open_slice ht hf with ⟨hcs, _⟩ | ⟨a, len, cap, m, n, D, Pl, hcs, _, hl, hm, hmm, _, hx⟩
  · simp [Value.cells] at hcs
    obtain ⟨rfl, rfl, rfl⟩ := hcs
    exact ⟨none, 0, [], rfl, Nat.le_refl _, Nat.zero_le _, Row.nil _ _, by simp, fun _ => rfl⟩
  · simp [Value.cells] at hcs
    obtain ⟨rfl, rfl, rfl⟩ := hcs
    simp only [if_true] at hmm
    subst hmm
    have each : ∀ i, i < len1 → ∃ x, ok x ∧ W.cells? 0 (a.add (i * k)) k = some (f x) := fun i hi => by
      obtain ⟨cs', h1, h2⟩ := hx i (by omega)
      obtain ⟨x, rfl, hok⟩ := hel _ _ _ h2
      rw [hc] at h1
      exact ⟨x, hok, h1⟩
    have build : ∀ j, j ≤ len1 → ∃ xs : List α, xs.length = j ∧ ∀ i (hi : i < xs.length), ok xs[i] ∧ W.cells? 0 (a.add (i * k)) k = some (f xs[i]) := by
      intro j
      induction j with
      | zero => exact fun _ => ⟨[], rfl, by simp⟩
      | succ j ih =>
        intro hj
        obtain ⟨xs, hxl, hxs⟩ := ih (by omega)
        obtain ⟨x, hok, hce⟩ := each j (by omega)
        refine ⟨xs ++ [x], by simp [hxl], fun i hi => ?_⟩
        by_cases hij : i < xs.length
        · rw [List.getElem_append_left hij]; exact hxs i hij
        · have : i = xs.length := by simp at hi; omega
          subst this
          rw [← hxl] at hce
          simp only [List.getElem_append_right (Nat.le_refl _), Nat.sub_self, List.getElem_singleton]
          exact ⟨hok, hce⟩
    obtain ⟨xs, hxl, hxs⟩ := build len1 (Nat.le_refl _)
    refine ⟨some a, m, xs, by rw [hxl], by rw [hxl]; exact hl, hm, ?_, fun x hxm => ?_, by simp⟩
    · refine row_of_cells fun i hi => ?_
      rw [flat_len f k hk] at hi
      have hq : i / k < xs.length := (Nat.div_lt_iff_lt_mul hk0).2 (by rw [Nat.mul_comm]; exact hi)
      have hr := Nat.mod_lt i hk0
      have hi2 : k * (i / k) + i % k = i := Nat.div_add_mod i k
      obtain ⟨_, hlen, hcell⟩ := World.cells?_some (hxs _ hq).2
      have e1 := hcell (i % k) hr
      have e2 := flat_get f k hk xs (i / k) hq (i % k) hr
      rw [hi2] at e2
      have e3 : (a.add (i / k * k)).add (i % k) = a.add i := by rw [Go.Deep.add_add, Nat.mul_comm, hi2]
      rw [e3] at e1
      rw [e1, ← e2]
      exact List.getElem?_eq_getElem _
    · obtain ⟨i, hi, rfl⟩ := List.getElem_of_mem hxm
      exact (hxs i hi).1

/-- A slice of bools that came in. -/
theorem open_boolsRow {t e : TypeId} {base : Nat} {v : Value} {d : DataW H} {ps : List MemPlace} (ht : P.underlying t = some (.slice e)) (he : P.underlying e = some .bool) (hc : P.cellsOf e = 1)
    (hv : Value.okWide P W .any base t v) (h : DataW.Trod enc P W 0 (fun _ => true) true t v d ps) :
    ∃ (p : Option Addr) (c : Nat) (xs : List Bool), v = .slice p xs.length c ∧ xs.length ≤ c ∧ c ≤ maxLen ∧ Row W p (xs.map Value.bool) ∧ (p = none → c = 0) := by
  obtain ⟨p, c, xs, h1, h2, h3, h4, _, h5⟩ := open_rowGen (k := 1) (fun b : Bool => [Value.bool b]) (fun _ => True) ht hc (by decide) (fun _ => rfl) (fun n cs y hy => by
    obtain ⟨b, h1, _⟩ := DataW.trod_bool he hy
    exact ⟨b, h1, trivial⟩) hv h
  refine ⟨p, c, xs, h1, h2, h3, ?_, h5⟩
  rwa [flat_one] at h4
end
end Go.Proofs.Ythmockfeffikjaa
namespace Go.Proofs.Ythmockfeffikjaa
open Go.RowKit Go.ChangeShapes Go.WideShapes Go.ChangeAt

section
variable {H : Type} (enc : TypeId × Value → H) (P : Program) (W : World)

/-- Within the form's reach. -/
def Light (t : TypeId) (d : DataW H) : Prop := ∀ m ∈ d.weights P t, m ≤ 140737488351232
/-- The cells of a value of type t that came in are those of some x of ours. -/
def OpensAs (t : TypeId) {α : Type} (f : α → List Value) (ok : α → Prop) : Prop :=
  ∀ (n : Nat) (cs : List Value) (y : DataW H × List MemPlace), DataW.trod enc P W 0 (fun _ => true) true n t cs = some y → Light P t y.1 → ∃ x, cs = f x ∧ ok x
variable {enc P W}

theorem light_all {t : TypeId} : ∀ {ds : List (DataW H)} {d : DataW H}, d ∈ ds → (∀ m ∈ DataW.weightsAll P t ds, m ≤ 140737488351232) → Light P t d
  | [], d, h, _ => by cases h
  | a :: l, d, h, hw => by
    simp only [DataW.weightsAll, List.mem_append] at hw
    rcases List.mem_cons.1 h with rfl | h
    · exact fun m hm => hw m (.inl hm)
    · exact light_all h (fun m hm => hw m (.inr hm))
theorem light_each : ∀ {ts : List TypeId} {ds : List (DataW H)} {j : Nat} {t : TypeId} {d : DataW H}, ts[j]? = some t → ds[j]? = some d → (∀ m ∈ DataW.weightsEach P ts ds, m ≤ 140737488351232) → Light P t d :=
  fun h1 h2 hw m hm => hw m (DataW.weights_mem_each h1 h2 m hm)
/-- A struct's field. -/
theorem light_field {t : TypeId} {fs : Array Field} {xs : List (DataW H × List MemPlace)} (ht : P.underlying t = some (.struct fs)) (h : Light P t (.agg (xs.map (·.1)))) {j : Nat} {f : Field} {y : DataW H × List MemPlace} (hf : fs[j]? = some f) (hx : xs[j]? = some y) : Light P f.type y.1 := by
  refine light_each (ts := fs.toList.map (·.type)) (ds := xs.map (·.1)) (j := j) (by simp [hf]) (by simp [hx]) ?_
  intro m hm
  refine h m ?_
  rw [DataW.weights, ht]
  exact hm

theorem opens_int {t : TypeId} {k : IntKind} (ht : P.underlying t = some (.int k)) : OpensAs enc P W t (fun n : Int => [Value.int k n]) (fun n => (Lit.int k n).wf = true) := fun n cs y h _ => by
  obtain ⟨m, e, _, w⟩ := DataW.trod_int ht h
  exact ⟨m, e, w⟩
theorem opens_bool {t : TypeId} (ht : P.underlying t = some .bool) : OpensAs enc P W t (fun b : Bool => [Value.bool b]) (fun _ => True) := fun n cs y h _ => by
  obtain ⟨b, e, _⟩ := DataW.trod_bool ht h
  exact ⟨b, e, trivial⟩
theorem opens_intSlice {t e : TypeId} {k : IntKind} (ht : P.underlying t = some (.slice e)) (he : P.underlying e = some (.int k)) (hc : P.cellsOf e = 1) (bytes : Nat) (hby : P.bytesOf e = bytes) :
    OpensAs enc P W t (fun z : Option Addr × Nat × List Int => [Value.slice z.1 z.2.2.length z.2.1]) (fun z => z.2.2.length ≤ z.2.1 ∧ z.2.1 ≤ maxLen ∧ (z.1 = none → z.2.1 = 0) ∧ Row W z.1 (z.2.2.map (Value.int k)) ∧ (∀ n ∈ z.2.2, (Lit.int k n).wf = true) ∧ z.2.1 * bytes ≤ 140737488351232) := fun n cs y h hlt => by
  rcases open_ints ht he hc h with ⟨hcs, _⟩ | ⟨a, len, cap, zs, hcs, _, hl, hm, hz, hy, hcell, hwz⟩
  · exact ⟨(none, 0, []), hcs, Nat.le_refl _, Nat.zero_le _, fun _ => rfl, Row.nil _ _, by simp, by simp⟩
  · have hwt : cap * bytes ≤ 140737488351232 := by
      have hz : zs.length = cap := by simpa using hz
      refine hlt _ ?_
      rw [hy, DataW.weights, ht]
      refine List.mem_cons.2 (.inl ?_)
      rw [hby]
      congr 1
      simp [lits]; omega
    have hz : zs.length = cap := by simpa using hz
    have hlen : (zs.take len).length = len := by simp; omega
    refine ⟨(some a, cap, zs.take len), by rw [hcs]; simp only [hlen], by rw [hlen]; exact hl, hm, by simp, ?_, fun s hs => hwz s (List.mem_of_mem_take hs), hwt⟩
    refine row_of_cells fun i hi => ?_
    have hi' : i < len := by simp at hi; omega
    have hi2 : i < zs.length := by omega
    rw [hcell i hi2]
    simp [List.getD, hi2]

/-- A slice of what opens. -/
theorem opens_slice {α : Type} {f : α → List Value} {ok : α → Prop} {t e : TypeId} {k : Nat} (ht : P.underlying t = some (.slice e)) (hc : P.cellsOf e = k) (hk0 : 0 < k) (hk : ∀ x, (f x).length = k) (hel : OpensAs enc P W e f ok) :
    OpensAs enc P W t (fun z : Option Addr × Nat × List α => [Value.slice z.1 z.2.2.length z.2.1]) (fun z => z.2.2.length ≤ z.2.1 ∧ z.2.1 ≤ maxLen ∧ (z.1 = none → z.2.1 = 0) ∧ Row W z.1 (z.2.2.flatMap f) ∧ (∀ x ∈ z.2.2, ok x) ∧ z.2.1 * P.bytesOf e ≤ 140737488351232) := fun n cs y hf hlt => by
  rcases Go.Deep.open_slice ht hf with ⟨hcs, _⟩ | ⟨a, len, cap, m, n, D, Pl, hcs, _, hl, hm, hmm, hy, hx⟩
  · exact ⟨(none, 0, []), hcs, Nat.le_refl _, Nat.zero_le _, fun _ => rfl, Row.nil _ _, by simp, by simp⟩
  · simp only [if_true] at hmm
    subst hmm
    have hwt : m * P.bytesOf e ≤ 140737488351232 := by
      refine hlt _ ?_
      rw [hy, DataW.weights, ht]
      refine List.mem_cons.2 (.inl ?_)
      congr 1
      simp; omega
    have hwe : ∀ i, i < len → Light P e (D i) := fun i hi => by
      refine light_all (ds := (List.range len).map D) (List.mem_map.2 ⟨i, List.mem_range.2 hi, rfl⟩) (fun m' hm' => hlt m' ?_)
      rw [hy, DataW.weights, ht]
      exact List.mem_cons_of_mem _ (List.mem_append_left _ hm')
    have each : ∀ i, i < len → ∃ x, ok x ∧ W.cells? 0 (a.add (i * k)) k = some (f x) := fun i hi => by
      obtain ⟨cs', h1, h2⟩ := hx i (by omega)
      obtain ⟨x, rfl, hok⟩ := hel _ _ _ h2 (hwe i hi)
      rw [hc] at h1
      exact ⟨x, hok, h1⟩
    have build : ∀ j, j ≤ len → ∃ xs : List α, xs.length = j ∧ ∀ i (hi : i < xs.length), ok xs[i] ∧ W.cells? 0 (a.add (i * k)) k = some (f xs[i]) := by
      intro j
      induction j with
      | zero => exact fun _ => ⟨[], rfl, by simp⟩
      | succ j ih =>
        intro hj
        obtain ⟨xs, hxl, hxs⟩ := ih (by omega)
        obtain ⟨x, hok, hce⟩ := each j (by omega)
        refine ⟨xs ++ [x], by simp [hxl], fun i hi => ?_⟩
        by_cases hij : i < xs.length
        · rw [List.getElem_append_left hij]; exact hxs i hij
        · have : i = xs.length := by simp at hi; omega
          subst this
          rw [← hxl] at hce
          simp only [List.getElem_append_right (Nat.le_refl _), Nat.sub_self, List.getElem_singleton]
          exact ⟨hok, hce⟩
    obtain ⟨xs, hxl, hxs⟩ := build len (Nat.le_refl _)
    refine ⟨(some a, m, xs), by rw [hcs]; simp only [hxl], by rw [hxl]; exact hl, hm, by simp, ?_, fun x hxm => ?_, hwt⟩
    · refine row_of_cells fun i hi => ?_
      simp only at hi ⊢
      rw [flat_len f k hk] at hi
      have hq : i / k < xs.length := (Nat.div_lt_iff_lt_mul hk0).2 (by rw [Nat.mul_comm]; exact hi)
      have hr := Nat.mod_lt i hk0
      have hi2 : k * (i / k) + i % k = i := Nat.div_add_mod i k
      obtain ⟨_, hlen, hcell⟩ := World.cells?_some (hxs _ hq).2
      have e1 := hcell (i % k) hr
      have e2 := flat_get f k hk xs (i / k) hq (i % k) hr
      rw [hi2] at e2
      have e3 : (a.add (i / k * k)).add (i % k) = a.add i := by rw [Go.Deep.add_add, Nat.mul_comm, hi2]
      rw [e3] at e1
      rw [e1, ← e2]
      exact List.getElem?_eq_getElem _
    · obtain ⟨i, hi, rfl⟩ := List.getElem_of_mem hxm
      exact (hxs i hi).1

/-- A struct that came in by value. -/
theorem param_struct {α : Type} {f : α → List Value} {ok : α → Prop} {t : TypeId} {fs : Array Field} {base : Nat} {v : Value} {d : DataW H} {ps : List MemPlace} (ht : P.underlying t = some (.struct fs)) (ho : OpensAs enc P W t f ok)
    (hv : Value.okWide P W .any base t v) (h : DataW.Trod enc P W 0 (fun _ => true) true t v d ps) (hlt : Light P t d) : ∃ x, v = .agg (f x).toArray ∧ ok x := by
  obtain ⟨cs, rfl, _⟩ := okWide_struct ht hv
  obtain ⟨n, hf⟩ := h
  obtain ⟨x, e, hok⟩ := ho _ _ _ hf hlt
  refine ⟨x, ?_, hok⟩
  have e2 : cs.toList = f x := by simpa [Value.cells] using e
  rw [← e2]
/-- A value of one cell. -/
theorem param_slice {α : Type} {f : α → List Value} {ok : α → Prop} {t e : TypeId} {base : Nat} {v : Value} {d : DataW H} {ps : List MemPlace} (ht : P.underlying t = some (.slice e)) (ho : OpensAs enc P W t f ok)
    (hv : Value.okWide P W .any base t v) (h : DataW.Trod enc P W 0 (fun _ => true) true t v d ps) (hlt : Light P t d) : ∃ x, [v] = f x ∧ ok x := by
  obtain ⟨a1, len1, cap1, rfl⟩ := okWide_slice ht hv
  obtain ⟨n, hf⟩ := h
  obtain ⟨x, e, hok⟩ := ho _ _ _ hf hlt
  exact ⟨x, by simpa [Value.cells] using e, hok⟩
/-- The reach of parameter j. -/
theorem light_param {ts : List TypeId} {ds : List (DataW H)} {j : Nat} {t : TypeId} {d : DataW H} (h : (DataW.weightsEach P ts ds).all (· ≤ reachBytes) = true) (h1 : ts[j]? = some t) (h2 : ds[j]? = some d) : Light P t d :=
  light_each h1 h2 (fun m hm => by
    have := List.all_eq_true.1 h m hm
    have h4 : m ≤ reachBytes := by simpa using this
    have h5 : reachBytes = 140737488351232 := by decide
    omega)
end
end Go.Proofs.Ythmockfeffikjaa
