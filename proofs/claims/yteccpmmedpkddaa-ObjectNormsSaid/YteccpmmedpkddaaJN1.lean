/-
  What comes in, opened: slices of any elements of a set number of cells, as rows of cells.
  What comes in, opened type by type: each type's cells as those of a value of its own.
  Objects as the walks have them.
  Objects as they come in.
  The kind of a section's name, and how many bytes a relocation changes: both walks of each.
  Names of sections: which may be: both walks.
-/
import Derived.Test.YteccpmmedpkddaaJN0
import Derived.Deep.Grids
import Derived.Test.YteccpmmedpkddaaShelf
import Derived.WalkLawsBesides
import Derived.WalkSpells
import Derived.IntWalk
import Derived.Lib.IndexBytes
namespace Go.Proofs.Yteccpmmedpkddaa
open Go.RowKit Go.ChangeShapes Go.WideShapes Go.ChangeAt

theorem flat_len {α : Type} (f : α → List Value) (k : Nat) (hk : ∀ x, (f x).length = k) (xs : List α) : (xs.flatMap f).length = k * xs.length := by
  induction xs with
  | nil => rfl
  | cons a l ih => simp only [List.flatMap_cons, List.length_append, hk, ih, List.length_cons]; rw [Nat.mul_succ]; omega
theorem flat_get {α : Type} (f : α → List Value) (k : Nat) (hk : ∀ x, (f x).length = k) : ∀ (xs : List α) (q : Nat) (h : q < xs.length) (j : Nat) (_ : j < k), (xs.flatMap f)[k * q + j]? = (f xs[q])[j]?
  | [], q, h, _, _ => by simp at h
  | a :: l, 0, _, j, hj => by
    rw [List.flatMap_cons, List.getElem?_append_left (by rw [hk]; omega)]
    simp
  | a :: l, q + 1, h, j, hj => by
    rw [List.flatMap_cons, List.getElem?_append_right (by rw [hk, Nat.mul_succ]; omega), hk]
    have := flat_get f k hk l q (by simpa using h) j hj
    rw [show k * (q + 1) + j - k = k * q + j by rw [Nat.mul_succ]; omega, this]
    simp

theorem flat_one {α : Type} (f : α → Value) (xs : List α) : xs.flatMap (fun b => [f b]) = xs.map f := by
  induction xs with
  | nil => rfl
  | cons a l ih => simp only [List.flatMap_cons, List.map_cons, ih]; rfl

section
variable {H : Type} {enc : TypeId × Value → H} {P : Program} {W : World}

theorem open_rowGen {α : Type} (f : α → List Value) (ok : α → Prop) {t e : TypeId} {base k : Nat} {v : Value} {d : DataW H} {ps : List MemPlace} (ht : P.underlying t = some (.slice e)) (hc : P.cellsOf e = k) (hk0 : 0 < k) (hk : ∀ x, (f x).length = k)
    (hel : ∀ (n : Nat) (cs : List Value) (y : DataW H × List MemPlace), DataW.trod enc P W 0 (fun _ => true) true n e cs = some y → ∃ x, cs = f x ∧ ok x)
    (hv : Value.okWide P W .any base t v) (h : DataW.Trod enc P W 0 (fun _ => true) true t v d ps) :
    ∃ (p : Option Addr) (c : Nat) (xs : List α), v = .slice p xs.length c ∧ xs.length ≤ c ∧ c ≤ maxLen ∧ Row W p (xs.flatMap f) ∧ (∀ x ∈ xs, ok x) ∧ (p = none → c = 0) := by
  obtain ⟨a1, len1, cap1, rfl⟩ := okWide_slice ht hv
  obtain ⟨fuel, hf⟩ := h
  rcases Go.Deep.open_slice ht hf with ⟨hcs, _⟩ | ⟨a, len, cap, m, n, D, Pl, hcs, _, hl, hm, hmm, _, hx⟩
  · simp [Value.cells] at hcs
    obtain ⟨rfl, rfl, rfl⟩ := hcs
    exact ⟨none, 0, [], rfl, Nat.le_refl _, Nat.zero_le _, Row.nil _ _, by simp, fun _ => rfl⟩
  · simp [Value.cells] at hcs
    obtain ⟨rfl, rfl, rfl⟩ := hcs
    simp only [if_true] at hmm
    subst hmm
    have each : ∀ i, i < len1 → ∃ x, ok x ∧ W.cells? 0 (a.add (i * k)) k = some (f x) := fun i hi => by
      obtain ⟨cs', h1, h2⟩ := hx i (by omega)
      obtain ⟨x, rfl, hok⟩ := hel _ _ _ h2
      rw [hc] at h1
      exact ⟨x, hok, h1⟩
    have build : ∀ j, j ≤ len1 → ∃ xs : List α, xs.length = j ∧ ∀ i (hi : i < xs.length), ok xs[i] ∧ W.cells? 0 (a.add (i * k)) k = some (f xs[i]) := by
      intro j
      induction j with
      | zero => exact fun _ => ⟨[], rfl, by simp⟩
      | succ j ih =>
        intro hj
        obtain ⟨xs, hxl, hxs⟩ := ih (by omega)
        obtain ⟨x, hok, hce⟩ := each j (by omega)
        refine ⟨xs ++ [x], by simp [hxl], fun i hi => ?_⟩
        by_cases hij : i < xs.length
        · rw [List.getElem_append_left hij]; exact hxs i hij
        · have : i = xs.length := by simp at hi; omega
          subst this
          rw [← hxl] at hce
          simp only [List.getElem_append_right (Nat.le_refl _), Nat.sub_self, List.getElem_singleton]
          exact ⟨hok, hce⟩
    obtain ⟨xs, hxl, hxs⟩ := build len1 (Nat.le_refl _)
    refine ⟨some a, m, xs, by rw [hxl], by rw [hxl]; exact hl, hm, ?_, fun x hxm => ?_, by simp⟩
    · refine row_of_cells fun i hi => ?_
      rw [flat_len f k hk] at hi
      have hq : i / k < xs.length := (Nat.div_lt_iff_lt_mul hk0).2 (by rw [Nat.mul_comm]; exact hi)
      have hr := Nat.mod_lt i hk0
      have hi2 : k * (i / k) + i % k = i := Nat.div_add_mod i k
      obtain ⟨_, hlen, hcell⟩ := World.cells?_some (hxs _ hq).2
      have e1 := hcell (i % k) hr
      have e2 := flat_get f k hk xs (i / k) hq (i % k) hr
      rw [hi2] at e2
      have e3 : (a.add (i / k * k)).add (i % k) = a.add i := by rw [Go.Deep.add_add, Nat.mul_comm, hi2]
      rw [e3] at e1
      rw [e1, ← e2]
      exact List.getElem?_eq_getElem _
    · obtain ⟨i, hi, rfl⟩ := List.getElem_of_mem hxm
      exact (hxs i hi).1

/-- A slice of bools that came in. -/
theorem open_boolsRow {t e : TypeId} {base : Nat} {v : Value} {d : DataW H} {ps : List MemPlace} (ht : P.underlying t = some (.slice e)) (he : P.underlying e = some .bool) (hc : P.cellsOf e = 1)
    (hv : Value.okWide P W .any base t v) (h : DataW.Trod enc P W 0 (fun _ => true) true t v d ps) :
    ∃ (p : Option Addr) (c : Nat) (xs : List Bool), v = .slice p xs.length c ∧ xs.length ≤ c ∧ c ≤ maxLen ∧ Row W p (xs.map Value.bool) ∧ (p = none → c = 0) := by
  obtain ⟨p, c, xs, h1, h2, h3, h4, _, h5⟩ := open_rowGen (k := 1) (fun b : Bool => [Value.bool b]) (fun _ => True) ht hc (by decide) (fun _ => rfl) (fun n cs y hy => by
    obtain ⟨b, h1, _⟩ := DataW.trod_bool he hy
    exact ⟨b, h1, trivial⟩) hv h
  refine ⟨p, c, xs, h1, h2, h3, ?_, h5⟩
  rwa [flat_one] at h4
end
end Go.Proofs.Yteccpmmedpkddaa
namespace Go.Proofs.Yteccpmmedpkddaa
open Go.RowKit Go.ChangeShapes Go.WideShapes Go.ChangeAt

section
variable {H : Type} (enc : TypeId × Value → H) (P : Program) (W : World)

/-- Within the form's reach. -/
def Light (t : TypeId) (d : DataW H) : Prop := ∀ m ∈ d.weights P t, m ≤ 140737488351232
/-- The cells of a value of type t that came in are those of some x of ours. -/
def OpensAs (t : TypeId) {α : Type} (f : α → List Value) (ok : α → Prop) : Prop :=
  ∀ (n : Nat) (cs : List Value) (y : DataW H × List MemPlace), DataW.trod enc P W 0 (fun _ => true) true n t cs = some y → Light P t y.1 → ∃ x, cs = f x ∧ ok x
variable {enc P W}

theorem light_all {t : TypeId} : ∀ {ds : List (DataW H)} {d : DataW H}, d ∈ ds → (∀ m ∈ DataW.weightsAll P t ds, m ≤ 140737488351232) → Light P t d
  | [], d, h, _ => by cases h
  | a :: l, d, h, hw => by
    simp only [DataW.weightsAll, List.mem_append] at hw
    rcases List.mem_cons.1 h with rfl | h
    · exact fun m hm => hw m (.inl hm)
    · exact light_all h (fun m hm => hw m (.inr hm))
theorem light_each : ∀ {ts : List TypeId} {ds : List (DataW H)} {j : Nat} {t : TypeId} {d : DataW H}, ts[j]? = some t → ds[j]? = some d → (∀ m ∈ DataW.weightsEach P ts ds, m ≤ 140737488351232) → Light P t d :=
  fun h1 h2 hw m hm => hw m (DataW.weights_mem_each h1 h2 m hm)
/-- A struct's field. -/
theorem light_field {t : TypeId} {fs : Array Field} {xs : List (DataW H × List MemPlace)} (ht : P.underlying t = some (.struct fs)) (h : Light P t (.agg (xs.map (·.1)))) {j : Nat} {f : Field} {y : DataW H × List MemPlace} (hf : fs[j]? = some f) (hx : xs[j]? = some y) : Light P f.type y.1 := by
  refine light_each (ts := fs.toList.map (·.type)) (ds := xs.map (·.1)) (j := j) (by simp [hf]) (by simp [hx]) ?_
  intro m hm
  refine h m ?_
  rw [DataW.weights, ht]
  exact hm

theorem opens_int {t : TypeId} {k : IntKind} (ht : P.underlying t = some (.int k)) : OpensAs enc P W t (fun n : Int => [Value.int k n]) (fun n => (Lit.int k n).wf = true) := fun n cs y h _ => by
  obtain ⟨m, e, _, w⟩ := DataW.trod_int ht h
  exact ⟨m, e, w⟩
theorem opens_bool {t : TypeId} (ht : P.underlying t = some .bool) : OpensAs enc P W t (fun b : Bool => [Value.bool b]) (fun _ => True) := fun n cs y h _ => by
  obtain ⟨b, e, _⟩ := DataW.trod_bool ht h
  exact ⟨b, e, trivial⟩
theorem opens_intSlice {t e : TypeId} {k : IntKind} (ht : P.underlying t = some (.slice e)) (he : P.underlying e = some (.int k)) (hc : P.cellsOf e = 1) (bytes : Nat) (hby : P.bytesOf e = bytes) :
    OpensAs enc P W t (fun z : Option Addr × Nat × List Int => [Value.slice z.1 z.2.2.length z.2.1]) (fun z => z.2.2.length ≤ z.2.1 ∧ z.2.1 ≤ maxLen ∧ (z.1 = none → z.2.1 = 0) ∧ Row W z.1 (z.2.2.map (Value.int k)) ∧ (∀ n ∈ z.2.2, (Lit.int k n).wf = true) ∧ z.2.1 * bytes ≤ 140737488351232) := fun n cs y h hlt => by
  rcases open_ints ht he hc h with ⟨hcs, _⟩ | ⟨a, len, cap, zs, hcs, _, hl, hm, hz, hy, hcell, hwz⟩
  · exact ⟨(none, 0, []), hcs, Nat.le_refl _, Nat.zero_le _, fun _ => rfl, Row.nil _ _, by simp, by simp⟩
  · have hwt : cap * bytes ≤ 140737488351232 := by
      have hz : zs.length = cap := by simpa using hz
      refine hlt _ ?_
      rw [hy, DataW.weights, ht]
      refine List.mem_cons.2 (.inl ?_)
      rw [hby]
      congr 1
      simp [lits]; omega
    have hz : zs.length = cap := by simpa using hz
    have hlen : (zs.take len).length = len := by simp; omega
    refine ⟨(some a, cap, zs.take len), by rw [hcs]; simp only [hlen], by rw [hlen]; exact hl, hm, by simp, ?_, fun s hs => hwz s (List.mem_of_mem_take hs), hwt⟩
    refine row_of_cells fun i hi => ?_
    have hi' : i < len := by simp at hi; omega
    have hi2 : i < zs.length := by omega
    rw [hcell i hi2]
    simp [List.getD, hi2]

/-- A slice of what opens. -/
theorem opens_slice {α : Type} {f : α → List Value} {ok : α → Prop} {t e : TypeId} {k : Nat} (ht : P.underlying t = some (.slice e)) (hc : P.cellsOf e = k) (hk0 : 0 < k) (hk : ∀ x, (f x).length = k) (hel : OpensAs enc P W e f ok) :
    OpensAs enc P W t (fun z : Option Addr × Nat × List α => [Value.slice z.1 z.2.2.length z.2.1]) (fun z => z.2.2.length ≤ z.2.1 ∧ z.2.1 ≤ maxLen ∧ (z.1 = none → z.2.1 = 0) ∧ Row W z.1 (z.2.2.flatMap f) ∧ (∀ x ∈ z.2.2, ok x) ∧ z.2.1 * P.bytesOf e ≤ 140737488351232) := fun n cs y hf hlt => by
  rcases Go.Deep.open_slice ht hf with ⟨hcs, _⟩ | ⟨a, len, cap, m, n, D, Pl, hcs, _, hl, hm, hmm, hy, hx⟩
  · exact ⟨(none, 0, []), hcs, Nat.le_refl _, Nat.zero_le _, fun _ => rfl, Row.nil _ _, by simp, by simp⟩
  · simp only [if_true] at hmm
    subst hmm
    have hwt : m * P.bytesOf e ≤ 140737488351232 := by
      refine hlt _ ?_
      rw [hy, DataW.weights, ht]
      refine List.mem_cons.2 (.inl ?_)
      congr 1
      simp; omega
    have hwe : ∀ i, i < len → Light P e (D i) := fun i hi => by
      refine light_all (ds := (List.range len).map D) (List.mem_map.2 ⟨i, List.mem_range.2 hi, rfl⟩) (fun m' hm' => hlt m' ?_)
      rw [hy, DataW.weights, ht]
      exact List.mem_cons_of_mem _ (List.mem_append_left _ hm')
    have each : ∀ i, i < len → ∃ x, ok x ∧ W.cells? 0 (a.add (i * k)) k = some (f x) := fun i hi => by
      obtain ⟨cs', h1, h2⟩ := hx i (by omega)
      obtain ⟨x, rfl, hok⟩ := hel _ _ _ h2 (hwe i hi)
      rw [hc] at h1
      exact ⟨x, hok, h1⟩
    have build : ∀ j, j ≤ len → ∃ xs : List α, xs.length = j ∧ ∀ i (hi : i < xs.length), ok xs[i] ∧ W.cells? 0 (a.add (i * k)) k = some (f xs[i]) := by
      intro j
      induction j with
      | zero => exact fun _ => ⟨[], rfl, by simp⟩
      | succ j ih =>
        intro hj
        obtain ⟨xs, hxl, hxs⟩ := ih (by omega)
        obtain ⟨x, hok, hce⟩ := each j (by omega)
        refine ⟨xs ++ [x], by simp [hxl], fun i hi => ?_⟩
        by_cases hij : i < xs.length
        · rw [List.getElem_append_left hij]; exact hxs i hij
        · have : i = xs.length := by simp at hi; omega
          subst this
          rw [← hxl] at hce
          simp only [List.getElem_append_right (Nat.le_refl _), Nat.sub_self, List.getElem_singleton]
          exact ⟨hok, hce⟩
    obtain ⟨xs, hxl, hxs⟩ := build len (Nat.le_refl _)
    refine ⟨(some a, m, xs), by rw [hcs]; simp only [hxl], by rw [hxl]; exact hl, hm, by simp, ?_, fun x hxm => ?_, hwt⟩
    · refine row_of_cells fun i hi => ?_
      simp only at hi ⊢
      rw [flat_len f k hk] at hi
      have hq : i / k < xs.length := (Nat.div_lt_iff_lt_mul hk0).2 (by rw [Nat.mul_comm]; exact hi)
      have hr := Nat.mod_lt i hk0
      have hi2 : k * (i / k) + i % k = i := Nat.div_add_mod i k
      obtain ⟨_, hlen, hcell⟩ := World.cells?_some (hxs _ hq).2
      have e1 := hcell (i % k) hr
      have e2 := flat_get f k hk xs (i / k) hq (i % k) hr
      rw [hi2] at e2
      have e3 : (a.add (i / k * k)).add (i % k) = a.add i := by rw [Go.Deep.add_add, Nat.mul_comm, hi2]
      rw [e3] at e1
      rw [e1, ← e2]
      exact List.getElem?_eq_getElem _
    · obtain ⟨i, hi, rfl⟩ := List.getElem_of_mem hxm
      exact (hxs i hi).1

/-- A struct that came in by value. -/
theorem param_struct {α : Type} {f : α → List Value} {ok : α → Prop} {t : TypeId} {fs : Array Field} {base : Nat} {v : Value} {d : DataW H} {ps : List MemPlace} (ht : P.underlying t = some (.struct fs)) (ho : OpensAs enc P W t f ok)
    (hv : Value.okWide P W .any base t v) (h : DataW.Trod enc P W 0 (fun _ => true) true t v d ps) (hlt : Light P t d) : ∃ x, v = .agg (f x).toArray ∧ ok x := by
  obtain ⟨cs, rfl, _⟩ := okWide_struct ht hv
  obtain ⟨n, hf⟩ := h
  obtain ⟨x, e, hok⟩ := ho _ _ _ hf hlt
  refine ⟨x, ?_, hok⟩
  have e2 : cs.toList = f x := by simpa [Value.cells] using e
  rw [← e2]
/-- A value of one cell. -/
theorem param_slice {α : Type} {f : α → List Value} {ok : α → Prop} {t e : TypeId} {base : Nat} {v : Value} {d : DataW H} {ps : List MemPlace} (ht : P.underlying t = some (.slice e)) (ho : OpensAs enc P W t f ok)
    (hv : Value.okWide P W .any base t v) (h : DataW.Trod enc P W 0 (fun _ => true) true t v d ps) (hlt : Light P t d) : ∃ x, [v] = f x ∧ ok x := by
  obtain ⟨a1, len1, cap1, rfl⟩ := okWide_slice ht hv
  obtain ⟨n, hf⟩ := h
  obtain ⟨x, e, hok⟩ := ho _ _ _ hf hlt
  exact ⟨x, by simpa [Value.cells] using e, hok⟩
/-- The reach of parameter j. -/
theorem light_param {ts : List TypeId} {ds : List (DataW H)} {j : Nat} {t : TypeId} {d : DataW H} (h : (DataW.weightsEach P ts ds).all (· ≤ reachBytes) = true) (h1 : ts[j]? = some t) (h2 : ds[j]? = some d) : Light P t d :=
  light_each h1 h2 (fun m hm => by
    have := List.all_eq_true.1 h m hm
    have h4 : m ≤ reachBytes := by simpa using this
    have h5 : reachBytes = 140737488351232 := by decide
    omega)
end
end Go.Proofs.Yteccpmmedpkddaa
namespace Go.Proofs.Yteccpmmedpkddaa
open Go.RowKit

structure Rl where
  off : Int
  ty : Int
  sym : Int
  add : Int
  deriving DecidableEq
structure Sc where
  name : ByteArray
  kind : Int
  align : Int
  size : Int
  data : List Int
  dp : Option Addr
  dc : Nat
  rel : List Rl
  rp : Option Addr
  rc : Nat
structure Sy where
  name : ByteArray
  sec : Int
  val : Int
  glob : Bool
  deriving DecidableEq
structure Ob where
  secs : List Sc
  sp : Option Addr
  sc : Nat
  syms : List Sy
  yp : Option Addr
  yc : Nat
def Rl.cells (r : Rl) : List Value := [.int .i64 r.off, .int .i64 r.ty, .int .i64 r.sym, .int .i64 r.add]
def Sc.cells (s : Sc) : List Value := [.string s.name, .int .i64 s.kind, .int .i64 s.align, .int .i64 s.size, .slice s.dp s.data.length s.dc, .slice s.rp s.rel.length s.rc]
def Sy.cells (s : Sy) : List Value := [.string s.name, .int .i64 s.sec, .int .i64 s.val, .bool s.glob]
def Ob.cells (o : Ob) : List Value := [.slice o.sp o.secs.length o.sc, .slice o.yp o.syms.length o.yc]

def inI64 (n : Int) : Prop := -9223372036854775808 ≤ n ∧ n ≤ 9223372036854775807
def Rl.ok (r : Rl) : Prop := inI64 r.off ∧ inI64 r.ty ∧ inI64 r.sym ∧ inI64 r.add
def Sy.ok (s : Sy) : Prop := s.name.size ≤ 140737488351232 ∧ inI64 s.sec ∧ inI64 s.val
/-- A section's own parts. -/
structure Sc.ok (W : World) (s : Sc) : Prop where
  name : s.name.size ≤ 140737488351232
  kind : inI64 s.kind
  align : inI64 s.align
  size : inI64 s.size
  data : Row W s.dp (s.data.map (Value.int .u8))
  dcap : s.data.length ≤ s.dc ∧ s.dc ≤ 140737488351232 ∧ (s.dp = none → s.dc = 0)
  bytes : ∀ v ∈ s.data, (Lit.int .u8 v).wf = true
  rel : Row W s.rp (s.rel.flatMap Rl.cells)
  rcap : s.rel.length ≤ s.rc ∧ s.rc ≤ 4398046510976 ∧ (s.rp = none → s.rc = 0)
  rels : ∀ r ∈ s.rel, r.ok
theorem Sc.ok.below {W w : World} {s : Sc} (h : s.ok W) (hb : Below W.heap.size W w) : s.ok w :=
  ⟨h.name, h.kind, h.align, h.size, h.data.below hb, h.dcap, h.bytes, h.rel.below hb, h.rcap, h.rels⟩
structure Ob.ok (W : World) (o : Ob) : Prop where
  secs : Row W o.sp (o.secs.flatMap Sc.cells)
  scap : o.secs.length ≤ o.sc ∧ o.sc ≤ 4398046510976 ∧ (o.sp = none → o.sc = 0)
  each : ∀ s ∈ o.secs, s.ok W
  syms : Row W o.yp (o.syms.flatMap Sy.cells)
  ycap : o.syms.length ≤ o.yc ∧ o.yc ≤ 4398046510976 ∧ (o.yp = none → o.yc = 0)
  names : ∀ s ∈ o.syms, s.ok
theorem Ob.ok.below {W w : World} {o : Ob} (h : o.ok W) (hb : Below W.heap.size W w) : o.ok w :=
  ⟨h.secs.below hb, h.scap, fun s hs => (h.each s hs).below hb, h.syms.below hb, h.ycap, h.names⟩

theorem rl_cells {w : World} {b o : Nat} {ys : List Rl} (h : Row w (some ⟨b, o, none⟩) (ys.flatMap Rl.cells)) (k : Nat) (hk : k < ys.length) :
    w.cell? ⟨b, o + k * 4, none⟩ = some (.int .i64 ys[k].off) ∧ w.cell? ⟨b, o + k * 4 + 1, none⟩ = some (.int .i64 ys[k].ty) ∧ w.cell? ⟨b, o + k * 4 + 2, none⟩ = some (.int .i64 ys[k].sym) ∧ w.cell? ⟨b, o + k * 4 + 3, none⟩ = some (.int .i64 ys[k].add) := by
  have each : ∀ j (hj : j < 4), w.cell? ⟨b, o + (k * 4 + j), none⟩ = (Rl.cells ys[k])[j]? := fun j hj => by
    have hl := flat_len Rl.cells 4 (fun _ => rfl) ys
    rw [show k * 4 + j = 4 * k + j from by omega]
    rw [h.cell (4 * k + j) (by omega), ← flat_get Rl.cells 4 (fun _ => rfl) ys k hk j hj]
    exact (List.getElem?_eq_getElem (by have : 4 * k + j < (ys.flatMap Rl.cells).length := by omega
                                        exact this)).symm
  exact ⟨each 0 (by omega), each 1 (by omega), each 2 (by omega), each 3 (by omega)⟩
theorem sy_cells {w : World} {b o : Nat} {ys : List Sy} (h : Row w (some ⟨b, o, none⟩) (ys.flatMap Sy.cells)) (k : Nat) (hk : k < ys.length) :
    w.cell? ⟨b, o + k * 4, none⟩ = some (.string ys[k].name) ∧ w.cell? ⟨b, o + k * 4 + 1, none⟩ = some (.int .i64 ys[k].sec) ∧ w.cell? ⟨b, o + k * 4 + 2, none⟩ = some (.int .i64 ys[k].val) ∧ w.cell? ⟨b, o + k * 4 + 3, none⟩ = some (.bool ys[k].glob) := by
  have each : ∀ j (hj : j < 4), w.cell? ⟨b, o + (k * 4 + j), none⟩ = (Sy.cells ys[k])[j]? := fun j hj => by
    have hl := flat_len Sy.cells 4 (fun _ => rfl) ys
    rw [show k * 4 + j = 4 * k + j from by omega]
    rw [h.cell (4 * k + j) (by omega), ← flat_get Sy.cells 4 (fun _ => rfl) ys k hk j hj]
    exact (List.getElem?_eq_getElem (by have : 4 * k + j < (ys.flatMap Sy.cells).length := by omega
                                        exact this)).symm
  exact ⟨each 0 (by omega), each 1 (by omega), each 2 (by omega), each 3 (by omega)⟩
theorem sc_cells {w : World} {b o : Nat} {ys : List Sc} (h : Row w (some ⟨b, o, none⟩) (ys.flatMap Sc.cells)) (k : Nat) (hk : k < ys.length) :
    w.cell? ⟨b, o + k * 6, none⟩ = some (.string ys[k].name) ∧ w.cell? ⟨b, o + k * 6 + 1, none⟩ = some (.int .i64 ys[k].kind) ∧ w.cell? ⟨b, o + k * 6 + 2, none⟩ = some (.int .i64 ys[k].align) ∧ w.cell? ⟨b, o + k * 6 + 3, none⟩ = some (.int .i64 ys[k].size) ∧ w.cell? ⟨b, o + k * 6 + 4, none⟩ = some (.slice ys[k].dp ys[k].data.length ys[k].dc) ∧ w.cell? ⟨b, o + k * 6 + 5, none⟩ = some (.slice ys[k].rp ys[k].rel.length ys[k].rc) := by
  have each : ∀ j (hj : j < 6), w.cell? ⟨b, o + (k * 6 + j), none⟩ = (Sc.cells ys[k])[j]? := fun j hj => by
    have hl := flat_len Sc.cells 6 (fun _ => rfl) ys
    rw [show k * 6 + j = 6 * k + j from by omega]
    rw [h.cell (6 * k + j) (by omega), ← flat_get Sc.cells 6 (fun _ => rfl) ys k hk j hj]
    exact (List.getElem?_eq_getElem (by have : 6 * k + j < (ys.flatMap Sc.cells).length := by omega
                                        exact this)).symm
  exact ⟨each 0 (by omega), each 1 (by omega), each 2 (by omega), each 3 (by omega), each 4 (by omega), each 5 (by omega)⟩
end Go.Proofs.Yteccpmmedpkddaa
namespace Go.Proofs.Yteccpmmedpkddaa
open Go.RowKit Go.ChangeShapes Go.WideShapes Go.ChangeAt

section
variable {H : Type} {enc : TypeId × Value → H} {W : World}
theorem fieldk {ty : TypeId} {off m : Nat} {cs l : List Value} (hc : Try.prog.cellsOf ty = m) (e : List.take (Try.prog.cellsOf ty) (List.drop off cs) = l) : (cs.drop off).take m = l := by rw [← hc]; exact e
theorem wf_i64 {n : Int} (h : (Lit.int .i64 n).wf = true) : inI64 n := by
  simp [Lit.wf, IntKind.min, IntKind.max, IntKind.bits, IntKind.signed] at h
  simp only [inI64]
  omega
theorem opens_str {P : Program} {t : TypeId} (ht : P.underlying t = some .string) : OpensAs enc P W t (fun s : ByteArray => [Value.string s]) (fun s => s.size ≤ 140737488351232) := fun n cs y h hlt => by
  obtain ⟨s, e, hy, _⟩ := DataW.trod_string ht h
  refine ⟨s, e, ?_⟩
  have := hlt s.data.toList.length (by rw [hy]; simp [DataW.weights])
  exact this

theorem opens_reloc : OpensAs enc Try.prog W 54 Rl.cells (Rl.ok) := fun n cs y h hlt => by
  obtain ⟨xs, k, rfl, rfl, hlen, hxl, hf⟩ := DataW.trod_struct Try.underlying54 h
  have hlen : cs.length = 4 := hlen.trans (by kernel_rfl)
  have hxl : xs.length = 4 := hxl
  have c0 : Try.prog.cellsOf 2 = 1 := by kernel_rfl
  have c1 : Try.prog.cellsOf 3 = 1 := by kernel_rfl
  obtain ⟨n0, e0, w0⟩ := (opens_int Try.underlying2) _ _ _ ((hf 0 _ rfl).trans (List.getElem?_eq_getElem (by omega))) (light_field Try.underlying54 hlt (j := 0) rfl (List.getElem?_eq_getElem (by omega)))
  obtain ⟨n1, e1, w1⟩ := (opens_int Try.underlying3) _ _ _ ((hf 1 _ rfl).trans (List.getElem?_eq_getElem (by omega))) (light_field Try.underlying54 hlt (j := 1) rfl (List.getElem?_eq_getElem (by omega)))
  obtain ⟨n2, e2, w2⟩ := (opens_int Try.underlying3) _ _ _ ((hf 2 _ rfl).trans (List.getElem?_eq_getElem (by omega))) (light_field Try.underlying54 hlt (j := 2) rfl (List.getElem?_eq_getElem (by omega)))
  obtain ⟨n3, e3, w3⟩ := (opens_int Try.underlying2) _ _ _ ((hf 3 _ rfl).trans (List.getElem?_eq_getElem (by omega))) (light_field Try.underlying54 hlt (j := 3) rfl (List.getElem?_eq_getElem (by omega)))
  have e0 := fieldk (off := 0) c0 e0
  have e1 := fieldk (off := 1) c1 e1
  have e2 := fieldk (off := 2) c1 e2
  have e3 := fieldk (off := 3) c0 e3
  match cs, hlen with
  | [v0, v1, v2, v3], _ =>
    simp at e0 e1 e2 e3
    subst e0 e1 e2 e3
    exact ⟨⟨n0, n1, n2, n3⟩, rfl, wf_i64 w0, wf_i64 w1, wf_i64 w2, wf_i64 w3⟩

theorem opens_sym : OpensAs enc Try.prog W 36 Sy.cells (Sy.ok) := fun n cs y h hlt => by
  obtain ⟨xs, k, rfl, rfl, hlen, hxl, hf⟩ := DataW.trod_struct Try.underlying36 h
  have hlen : cs.length = 4 := hlen.trans (by kernel_rfl)
  have hxl : xs.length = 4 := hxl
  have c0 : Try.prog.cellsOf 9 = 1 := by kernel_rfl
  have c1 : Try.prog.cellsOf 3 = 1 := by kernel_rfl
  have c2 : Try.prog.cellsOf 2 = 1 := by kernel_rfl
  have c3 : Try.prog.cellsOf 4 = 1 := by kernel_rfl
  obtain ⟨n0, e0, w0⟩ := (opens_str Try.underlying9) _ _ _ ((hf 0 _ rfl).trans (List.getElem?_eq_getElem (by omega))) (light_field Try.underlying36 hlt (j := 0) rfl (List.getElem?_eq_getElem (by omega)))
  obtain ⟨n1, e1, w1⟩ := (opens_int Try.underlying3) _ _ _ ((hf 1 _ rfl).trans (List.getElem?_eq_getElem (by omega))) (light_field Try.underlying36 hlt (j := 1) rfl (List.getElem?_eq_getElem (by omega)))
  obtain ⟨n2, e2, w2⟩ := (opens_int Try.underlying2) _ _ _ ((hf 2 _ rfl).trans (List.getElem?_eq_getElem (by omega))) (light_field Try.underlying36 hlt (j := 2) rfl (List.getElem?_eq_getElem (by omega)))
  obtain ⟨n3, e3, w3⟩ := (opens_bool Try.underlying4) _ _ _ ((hf 3 _ rfl).trans (List.getElem?_eq_getElem (by omega))) (light_field Try.underlying36 hlt (j := 3) rfl (List.getElem?_eq_getElem (by omega)))
  have e0 := fieldk (off := 0) c0 e0
  have e1 := fieldk (off := 1) c1 e1
  have e2 := fieldk (off := 2) c2 e2
  have e3 := fieldk (off := 3) c3 e3
  match cs, hlen with
  | [v0, v1, v2, v3], _ =>
    simp at e0 e1 e2 e3
    subst e0 e1 e2 e3
    exact ⟨⟨n0, n1, n2, n3⟩, rfl, w0, wf_i64 w1, wf_i64 w2⟩

theorem opens_sec : OpensAs enc Try.prog W 40 Sc.cells (Sc.ok W) := fun n cs y h hlt => by
  obtain ⟨xs, k, rfl, rfl, hlen, hxl, hf⟩ := DataW.trod_struct Try.underlying40 h
  have hlen : cs.length = 6 := hlen.trans (by kernel_rfl)
  have hxl : xs.length = 6 := hxl
  have c0 : Try.prog.cellsOf 9 = 1 := by kernel_rfl
  have c1 : Try.prog.cellsOf 3 = 1 := by kernel_rfl
  have c2 : Try.prog.cellsOf 2 = 1 := by kernel_rfl
  have c3 : Try.prog.cellsOf 37 = 1 := by kernel_rfl
  have c4 : Try.prog.cellsOf 38 = 1 := by kernel_rfl
  obtain ⟨n0, e0, w0⟩ := (opens_str Try.underlying9) _ _ _ ((hf 0 _ rfl).trans (List.getElem?_eq_getElem (by omega))) (light_field Try.underlying40 hlt (j := 0) rfl (List.getElem?_eq_getElem (by omega)))
  obtain ⟨n1, e1, w1⟩ := (opens_int Try.underlying3) _ _ _ ((hf 1 _ rfl).trans (List.getElem?_eq_getElem (by omega))) (light_field Try.underlying40 hlt (j := 1) rfl (List.getElem?_eq_getElem (by omega)))
  obtain ⟨n2, e2, w2⟩ := (opens_int Try.underlying2) _ _ _ ((hf 2 _ rfl).trans (List.getElem?_eq_getElem (by omega))) (light_field Try.underlying40 hlt (j := 2) rfl (List.getElem?_eq_getElem (by omega)))
  obtain ⟨n3, e3, w3⟩ := (opens_int Try.underlying2) _ _ _ ((hf 3 _ rfl).trans (List.getElem?_eq_getElem (by omega))) (light_field Try.underlying40 hlt (j := 3) rfl (List.getElem?_eq_getElem (by omega)))
  obtain ⟨⟨p4, q4, l4⟩, e4, w4⟩ := (opens_intSlice Try.underlying37 Try.underlying5 (by kernel_rfl) 1 (by kernel_rfl)) _ _ _ ((hf 4 _ rfl).trans (List.getElem?_eq_getElem (by omega))) (light_field Try.underlying40 hlt (j := 4) rfl (List.getElem?_eq_getElem (by omega)))
  obtain ⟨⟨p5, q5, l5⟩, e5, w5⟩ := (opens_slice (k := 4) Try.underlying38 (by kernel_rfl) (by decide) (fun _ => rfl) opens_reloc) _ _ _ ((hf 5 _ rfl).trans (List.getElem?_eq_getElem (by omega))) (light_field Try.underlying40 hlt (j := 5) rfl (List.getElem?_eq_getElem (by omega)))
  have e0 := fieldk (off := 0) c0 e0
  have e1 := fieldk (off := 1) c1 e1
  have e2 := fieldk (off := 2) c2 e2
  have e3 := fieldk (off := 3) c2 e3
  have e4 := fieldk (off := 4) c3 e4
  have e5 := fieldk (off := 5) c4 e5
  match cs, hlen with
  | [v0, v1, v2, v3, v4, v5], _ =>
    simp at e0 e1 e2 e3 e4 e5
    subst e0 e1 e2 e3 e4 e5
    exact ⟨⟨n0, n1, n2, n3, l4, p4, q4, l5, p5, q5⟩, rfl, ⟨w0, wf_i64 w1, wf_i64 w2, wf_i64 w3, w4.2.2.2.1, ⟨w4.1, by have h9 := w4.2.2.2.2.2; simp only at h9 ⊢; omega, w4.2.2.1⟩, w4.2.2.2.2.1, w5.2.2.2.1, ⟨w5.1, by have h9 := w5.2.2.2.2.2; rw [show Try.prog.bytesOf 54 = 32 from by kernel_rfl] at h9; simp only at h9 ⊢; omega, w5.2.2.1⟩, w5.2.2.2.2.1⟩⟩

theorem opens_obj : OpensAs enc Try.prog W 25 Ob.cells (Ob.ok W) := fun n cs y h hlt => by
  obtain ⟨xs, k, rfl, rfl, hlen, hxl, hf⟩ := DataW.trod_struct Try.underlying25 h
  have hlen : cs.length = 2 := hlen.trans (by kernel_rfl)
  have hxl : xs.length = 2 := hxl
  have c0 : Try.prog.cellsOf 22 = 1 := by kernel_rfl
  have c1 : Try.prog.cellsOf 23 = 1 := by kernel_rfl
  obtain ⟨⟨p4, q4, l4⟩, e0, w0⟩ := (opens_slice (k := 6) Try.underlying22 (by kernel_rfl) (by decide) (fun _ => rfl) opens_sec) _ _ _ ((hf 0 _ rfl).trans (List.getElem?_eq_getElem (by omega))) (light_field Try.underlying25 hlt (j := 0) rfl (List.getElem?_eq_getElem (by omega)))
  obtain ⟨⟨p5, q5, l5⟩, e1, w1⟩ := (opens_slice (k := 4) Try.underlying23 (by kernel_rfl) (by decide) (fun _ => rfl) opens_sym) _ _ _ ((hf 1 _ rfl).trans (List.getElem?_eq_getElem (by omega))) (light_field Try.underlying25 hlt (j := 1) rfl (List.getElem?_eq_getElem (by omega)))
  have e0 := fieldk (off := 0) c0 e0
  have e1 := fieldk (off := 1) c1 e1
  match cs, hlen with
  | [v0, v1], _ =>
    simp at e0 e1
    subst e0 e1
    exact ⟨⟨l4, p4, q4, l5, p5, q5⟩, rfl, ⟨w0.2.2.2.1, ⟨w0.1, by have h9 := w0.2.2.2.2.2; rw [show Try.prog.bytesOf 40 = 88 from by kernel_rfl] at h9; simp only at h9 ⊢; omega, w0.2.2.1⟩, w0.2.2.2.2.1, w1.2.2.2.1, ⟨w1.1, by have h9 := w1.2.2.2.2.2; rw [show Try.prog.bytesOf 36 = 40 from by kernel_rfl] at h9; simp only at h9 ⊢; omega, w1.2.2.1⟩, w1.2.2.2.2.1⟩⟩

end
end Go.Proofs.Yteccpmmedpkddaa
namespace Go.Proofs.Yteccpmmedpkddaa
open Go.RowKit

def widthP (k : Int) : Int :=
  if k = 257 ∨ k = 260 then 8 else if k = 259 ∨ k = 262 then 2
  else if k = 258 ∨ k = 261 ∨ k = 273 ∨ k = 274 ∨ k = 275 ∨ k = 277 ∨ k = 278 ∨ k = 279 ∨ k = 280 ∨ k = 282 ∨ k = 283 ∨ k = 284 ∨ k = 285 ∨ k = 286 then 4 else 0

theorem width_any (k : Int) (w : World) : Calls Try.prog 11 #[.int .i64 k] w fun e w' => e = .returned (.int .i64 (widthP k)) ∧ w = w' := by
  go_enter Try.func11, Try.ntmps11
  go_wp2
  all_goals (go_ret; refine ⟨ret_int ?_, rfl⟩; simp_all [widthP])

def begL (s : ByteArray) (l : List UInt8) : Bool := s.toList == l || Lib.hasPrefix s.data.toList (l ++ [46])
theorem point_size (p : ByteArray) : (p ++ ⟨#[46]⟩ : ByteArray).size = p.size + 1 := by
  rw [ByteArray.size_append]; rfl
theorem point_data (p : ByteArray) : (p ++ ⟨#[46]⟩ : ByteArray).data.toList = p.data.toList ++ [46] := by
  simp
theorem ext_pre (s p : ByteArray) (h : p.size < s.size) : ((s.extract 0 (p.size + 1)).toList == (p ++ ⟨#[46]⟩ : ByteArray).toList) = Lib.hasPrefix s.data.toList (p.data.toList ++ [46]) := by
  have hz := point_size p
  have := Lib.occ_of_piece s (p ++ ⟨#[46]⟩ : ByteArray) 0 (by omega)
  rw [Nat.zero_add, hz] at this
  rw [← this, Lib.occAt, List.drop_zero, Lib.hasPrefix, point_data]
theorem pre_short (s p : ByteArray) (h : ¬ p.size < s.size) : Lib.hasPrefix s.data.toList (p.data.toList ++ [46]) = false := by
  rw [Lib.hasPrefix, Bool.eq_false_iff]
  intro e
  have h1 := (List.isPrefixOf_iff_prefix.1 e).length_le
  have h2 : p.data.toList.length = p.size := rfl
  have h3 : s.data.toList.length = s.size := rfl
  simp only [List.length_append, List.length_singleton] at h1
  omega
set_option maxHeartbeats 400000 in
theorem begins_any (s p : ByteArray) (w : World) (hp : p.size ≤ 1000) : Calls Try.prog 35 #[.string s, .string p] w fun e w' => e = .returned (.bool (begL s p.data.toList)) ∧ w = w' := by
  have hi : (IntKind.i64.wrap ((p.size : Int) + 1)) = p.size + 1 := IntWalk.i64_in _ (by omega)
  have HE := hid (ext_pre s p)
  rcases Classical.em (s.toList = p.toList) with h1 | h1
  · go_enter Try.func35, Try.ntmps35
    go_wp2
    go_ret
    refine ⟨ret_bool ?_, rfl⟩
    simp [begL, ← Lib.toList_data, h1]
  · have h1' : (s.toList == p.toList) = false := by simpa using h1
    have H1 := hid h1'
    rcases Classical.em (p.size < s.size) with h2 | h2
    · go_enter Try.func35, Try.ntmps35
      go_wp2
      go_ret
      refine ⟨ret_bool ?_, rfl⟩
      rw [HE.out h2]
      simp [begL, ← Lib.toList_data, h1]
    · have h2' : s.size ≤ p.size := by omega
      go_enter Try.func35, Try.ntmps35
      go_wp2
      go_ret
      refine ⟨ret_bool ?_, rfl⟩
      have h1d : ¬ s.toList = p.data.toList := by rw [← Lib.toList_data]; exact h1
      simp [begL, h1d, pre_short s p h2]

def kindP (s : ByteArray) : Int := if begL s [46, 116, 101, 120, 116] then 1 else if begL s [46, 114, 111, 100, 97, 116, 97] then 3 else if begL s [46, 98, 115, 115] then 4 else 2
theorem rkind_any (s : ByteArray) (w : World) : Calls Try.prog 10 #[.string s] w fun e w' => e = .returned (.int .i64 (kindP s)) ∧ w = w' := by
  have H := hid (fun p w hp => begins_any s p w hp)
  unfold kindP
  go_enter Try.func10, Try.ntmps10
  go_wp2_with (go_at_call 35; refine (H.out _ _ (by decide)).mono ?_; rintro e w' ⟨rfl, rfl⟩)
  all_goals (go_ret; refine ⟨ret_int ?_, rfl⟩; simp_all)
set_option maxHeartbeats 1000000 in
theorem kind_any (s : ByteArray) (w : World) : Calls Try.prog 9 #[.string s] w fun e w' => e = .returned (.int .i64 (kindP s)) ∧ Below w.heap.size w w' := by
  have HP := hid (fun p w => Try.strings_HasPrefix s p w)
  go_enter Try.func9, Try.ntmps9
  go_wp2
  refine wp_loop_rounds 4 ?_
  rw [rounds_succ]
  go_wp2_with (go_at_call 34; refine (HP.out _ _).mono ?_; rintro e w' ⟨rfl, rfl⟩)
  all_goals try (rw [rounds_succ]; go_wp2_with (go_at_call 34; refine (HP.out _ _).mono ?_; rintro e w' ⟨rfl, rfl⟩))
  all_goals try (rw [rounds_succ]; go_wp2_with (go_at_call 34; refine (HP.out _ _).mono ?_; rintro e w' ⟨rfl, rfl⟩))
  all_goals try (rw [rounds_succ]; go_wp2)
  all_goals (go_ret; refine ⟨ret_int ?_, ?_⟩)
  all_goals first | (simp_all [kindP, begL]; done) | (repeat' (first | exact Below.refl _ _ | refine Below.alloc ?_ (by simp <;> omega) _))
end Go.Proofs.Yteccpmmedpkddaa
namespace Go.Proofs.Yteccpmmedpkddaa
open Go.RowKit

theorem rwidth_any (k : Int) (w : World) : Calls Try.prog 12 #[.int .i64 k] w fun e w' => e = .returned (.int .i64 (widthP k)) ∧ w = w' := by
  unfold widthP
  go_enter Try.func12, Try.ntmps12
  go_wp2
  all_goals (go_ret; refine ⟨ret_int ?_, rfl⟩)
  all_goals simp only [beq_iff_eq, beq_eq_false_iff_ne, ne_eq, Bool.or_eq_true, Bool.and_eq_true, decide_eq_true_eq, Bool.or_eq_false_iff, Bool.and_eq_false_iff, decide_eq_false_iff_not] at *
  all_goals (repeat' split) <;> omega

def okc (c : UInt8) : Bool := decide (33 ≤ (c.toNat : Int)) && decide ((c.toNat : Int) ≤ 126)
def okN (s : ByteArray) (k : Nat) : Bool := (s.data.toList.take k).all okc
theorem okN_succ (s : ByteArray) (k : Nat) (h : k < s.size) : okN s (k + 1) = (okN s k && okc s[k]) := by
  unfold okN
  rw [List.take_succ_eq_append_getElem (by simpa using h)]
  simp
  rfl
theorem okN_false (s : ByteArray) (k : Nat) (h : k < s.size) (hc : okc s[k] = false) : okN s s.size = false := by
  have h1 : okN s (k + 1) = false := by rw [okN_succ s k h, hc, Bool.and_false]
  unfold okN at h1 ⊢
  rw [List.all_eq_false] at h1 ⊢
  obtain ⟨x, hx, hn⟩ := h1
  refine ⟨x, ?_, hn⟩
  rw [List.take_of_length_le (show s.data.toList.length ≤ s.size from Nat.le_refl _)]
  exact List.mem_of_mem_take hx
theorem okc_no (c : UInt8) (h : (c.toNat : Int) < 33 ∨ 126 < (c.toNat : Int)) : okc c = false := by
  simp only [okc, Bool.and_eq_false_iff, decide_eq_false_iff_not]; omega
theorem okc_yes (c : UInt8) (h1 : 33 ≤ (c.toNat : Int)) (h2 : (c.toNat : Int) ≤ 126) : okc c = true := by
  simp only [okc, Bool.and_eq_true, decide_eq_true_eq]; omega
def nameP (s : ByteArray) : Bool := decide (1 ≤ s.size) && decide (s.size ≤ 32) && okN s s.size
theorem okN_zero (s : ByteArray) : okN s 0 = true := by simp [okN]

set_option maxHeartbeats 400000 in
theorem name_any (s : ByteArray) (w : World) (hs : s.size ≤ 140737488351232) : Calls Try.prog 61 #[.string s] w fun e w' => e = .returned (.bool (nameP s)) ∧ w = w' := by
  rcases Classical.em (s.size < 1) with h1 | h1
  · go_enter Try.func61, Try.ntmps61
    go_wp2
    all_goals (go_ret; exact ⟨ret_bool (by simp [nameP]; omega), rfl⟩)
  · rcases Classical.em (32 < s.size) with h2 | h2
    · have h1' : 1 ≤ s.size := by omega
      go_enter Try.func61, Try.ntmps61
      go_wp2
      all_goals (go_ret; exact ⟨ret_bool (by simp [nameP]; omega), rfl⟩)
    · have h1' : 1 ≤ s.size := by omega
      have h2' : s.size ≤ 32 := by omega
      have HN : Hid (nameP s = okN s s.size) := by simp [Hid, nameP, h1', h2']
      clear h1 h2
      go_enter Try.func61, Try.ntmps61
      go_wp2
      go_loop [14] (fun i => ∃ k : Nat, k ≤ s.size ∧ i = .int .i64 k ∧ okN s k = true) (fun i => s.size - (intOf i).toNat)
      case atStart => exact ⟨0, Nat.zero_le _, rfl, okN_zero s⟩
      case round =>
        obtain ⟨k, hk, rfl, hok⟩ := hrel
        have HOK := hid hok
        clear hok
        by_cases hlt : k < s.size
        · have HS := hid (okN_succ s k hlt)
          have HF := hid (okN_false s k hlt)
          go_wp2
          all_goals first
            | (go_ret; exact ⟨ret_bool (by rw [HN.out]; exact (HF.out (okc_no _ (by omega))).symm), rfl⟩)
            | (go_round
               case rel => exact ⟨k + 1, by omega, by go_num, by rw [HS.out, HOK.out, okc_yes _ (by omega) (by omega)]; rfl⟩
               case measure => simp [intOf]; omega)
        · go_wp2
          go_ret
          obtain rfl : k = s.size := by omega
          exact ⟨ret_bool (by rw [HN.out]; exact HOK.out.symm), rfl⟩

set_option maxHeartbeats 400000 in
theorem rname_any (s : ByteArray) (w : World) (hs : s.size ≤ 140737488351232) : Calls Try.prog 66 #[.string s] w fun e w' => e = .returned (.bool (nameP s)) ∧ w = w' := by
  have HB : Hid (okN s s.size = false → nameP s = false) := fun h => by simp [nameP, h]
  have HG : Hid (okN s s.size = true → nameP s = (decide (1 ≤ s.size) && decide (s.size ≤ 32))) := fun h => by simp [nameP, h]
  go_enter Try.func66, Try.ntmps66
  go_wp2
  go_loop [3] (fun i => ∃ k : Nat, k ≤ s.size ∧ i = .int .i64 k ∧ okN s k = true) (fun i => s.size - (intOf i).toNat)
  case atStart => exact ⟨0, Nat.zero_le _, rfl, okN_zero s⟩
  case round =>
    obtain ⟨k, hk, rfl, hok⟩ := hrel
    have HOK := hid hok
    clear hok
    by_cases hlt : k < s.size
    · have HS := hid (okN_succ s k hlt)
      have HF := hid (okN_false s k hlt)
      go_wp2
      all_goals first
        | (go_ret; exact ⟨ret_bool (HB.out (HF.out (okc_no _ (by omega)))).symm, rfl⟩)
        | (go_round
           case rel => exact ⟨k + 1, by omega, by go_num, by rw [HS.out, HOK.out, okc_yes _ (by omega) (by omega)]; rfl⟩
           case measure => simp [intOf]; omega)
    · obtain rfl : k = s.size := by omega
      have HN := hid (HG.out HOK.out)
      go_wp2
      all_goals (go_ret; refine ⟨ret_bool ?_, rfl⟩; rw [HN.out])
      all_goals first | (have h : 1 ≤ s.size := by omega
                         simp [h]; omega) | (have h : ¬ 1 ≤ s.size := by omega
                                             simp [h])
end Go.Proofs.Yteccpmmedpkddaa
