/-
  What comes in, opened type by type, and how much of its bulk we count: for the statements of the second form.
  Cells and accesses as they come in.
  A setup as it comes in.
  A setup that came in, as the walks have it.
-/
import Derived.Test.YthmockfeffikjaaJE1
import Derived.Test.YthmockfeffikjaaRows
import Derived.Test.YthmockfeffikjaaJE4
import Derived.Test.YthmockfeffikjaaJE9
import Derived.Test.YthmockfeffikjaaJE16
import Derived.Test.YthmockfeffikjaaJE28
import Derived.Test.YthmockfeffikjaaJE24
namespace Go.Proofs.Ythmockfeffikjaa
open Go.RowKit Go.ChangeShapes Go.WideShapes Go.ChangeAt

theorem bulk_one {H : Type} (d : DataW H) : 1 ≤ Rows.uptoBulk d := by
  cases d with
  | lit l => cases l <;> simp [Rows.uptoBulk]
  | _ => simp [Rows.uptoBulk]
theorem bulk_app {H : Type} (l r : List (DataW H)) : Rows.uptoBulkAll (l ++ r) = Rows.uptoBulkAll l + Rows.uptoBulkAll r := by
  induction l with
  | nil => simp [Rows.uptoBulkAll]
  | cons x l ih => simp only [List.cons_append, Rows.uptoBulkAll, ih]; omega
theorem bulk_mem {H : Type} {d : DataW H} {l : List (DataW H)} (h : d ∈ l) : Rows.uptoBulk d ≤ Rows.uptoBulkAll l := by
  induction l with
  | nil => cases h
  | cons x r ih =>
    simp only [Rows.uptoBulkAll]
    cases List.mem_cons.1 h with
    | inl e => subst e; omega
    | inr e => have := ih e; omega

section
variable {H : Type} (enc : TypeId × Value → H) (P : Program) (W : World)
/-- The cells of a value of type t that came in are those of some x of ours, of which we count no more than its bulk. -/
def OpensIn (t : TypeId) {α : Type} (f : α → List Value) (ok : α → Prop) (m : α → Nat) : Prop :=
  ∀ (n : Nat) (cs : List Value) (y : DataW H × List MemPlace), DataW.trod enc P W 0 (fun _ => true) true n t cs = some y → Light P t y.1 → ∃ x, cs = f x ∧ ok x ∧ m x ≤ Rows.uptoBulk y.1
variable {enc P W}
theorem OpensAs.one {t : TypeId} {α : Type} {f : α → List Value} {ok : α → Prop} (h : OpensAs enc P W t f ok) : OpensIn enc P W t f ok (fun _ => 1) := fun n cs y h1 h2 => by
  obtain ⟨x, e, o⟩ := h n cs y h1 h2
  exact ⟨x, e, o, bulk_one _⟩

/-- A slice of what opens. -/
theorem opens_sliceB {α : Type} {f : α → List Value} {ok : α → Prop} {m₀ : α → Nat} {t e : TypeId} {k : Nat} (ht : P.underlying t = some (.slice e)) (hc : P.cellsOf e = k) (hk0 : 0 < k) (hk : ∀ x, (f x).length = k) (hel : OpensIn enc P W e f ok m₀) :
    OpensIn enc P W t (fun z : Option Addr × Nat × List α => [Value.slice z.1 z.2.2.length z.2.1]) (fun z => z.2.2.length ≤ z.2.1 ∧ z.2.1 ≤ maxLen ∧ (z.1 = none → z.2.1 = 0) ∧ Row W z.1 (z.2.2.flatMap f) ∧ (∀ x ∈ z.2.2, ok x) ∧ z.2.1 * P.bytesOf e ≤ 140737488351232) (fun z => (z.2.2.map m₀).sum) := fun n cs y hf hlt => by
  rcases Go.Deep.open_slice ht hf with ⟨hcs, _⟩ | ⟨a, len, cap, m, n, D, Pl, hcs, _, hl, hm, hmm, hy, hx⟩
  · exact ⟨(none, 0, []), hcs, ⟨Nat.le_refl _, Nat.zero_le _, fun _ => rfl, Row.nil _ _, by simp, by simp⟩, by simp⟩
  · simp only [if_true] at hmm
    subst hmm
    have hwt : m * P.bytesOf e ≤ 140737488351232 := by
      refine hlt _ ?_
      rw [hy, DataW.weights, ht]
      refine List.mem_cons.2 (.inl ?_)
      congr 1
      simp; omega
    have hwe : ∀ i, i < len → Light P e (D i) := fun i hi => by
      refine light_all (ds := (List.range len).map D) (List.mem_map.2 ⟨i, List.mem_range.2 hi, rfl⟩) (fun m' hm' => hlt m' ?_)
      rw [hy, DataW.weights, ht]
      exact List.mem_cons_of_mem _ (List.mem_append_left _ hm')
    have each : ∀ i, i < len → ∃ x, ok x ∧ W.cells? 0 (a.add (i * k)) k = some (f x) ∧ m₀ x ≤ Rows.uptoBulk (D i) := fun i hi => by
      obtain ⟨cs', h1, h2⟩ := hx i (by omega)
      obtain ⟨x, rfl, hok, hmx⟩ := hel _ _ _ h2 (hwe i hi)
      rw [hc] at h1
      exact ⟨x, hok, h1, hmx⟩
    have build : ∀ j, j ≤ len → ∃ xs : List α, xs.length = j ∧ (xs.map m₀).sum ≤ Rows.uptoBulkAll ((List.range j).map D) ∧ ∀ i (hi : i < xs.length), ok xs[i] ∧ W.cells? 0 (a.add (i * k)) k = some (f xs[i]) := by
      intro j
      induction j with
      | zero => exact fun _ => ⟨[], rfl, by simp, by simp⟩
      | succ j ih =>
        intro hj
        obtain ⟨xs, hxl, hsu, hxs⟩ := ih (by omega)
        obtain ⟨x, hok, hce, hmx⟩ := each j (by omega)
        refine ⟨xs ++ [x], by simp [hxl], by rw [List.range_succ, List.map_append, List.map_append, bulk_app]; simp [Rows.uptoBulkAll]; omega, fun i hi => ?_⟩
        by_cases hij : i < xs.length
        · rw [List.getElem_append_left hij]; exact hxs i hij
        · have : i = xs.length := by simp at hi; omega
          subst this
          rw [← hxl] at hce
          simp only [List.getElem_append_right (Nat.le_refl _), Nat.sub_self, List.getElem_singleton]
          exact ⟨hok, hce⟩
    obtain ⟨xs, hxl, hsu, hxs⟩ := build len (Nat.le_refl _)
    refine ⟨(some a, m, xs), by rw [hcs]; simp only [hxl], ⟨by rw [hxl]; exact hl, hm, by simp, ?_, fun x hxm => ?_, hwt⟩, by rw [hy]; simp only [Rows.uptoBulk]; omega⟩
    · refine row_of_cells fun i hi => ?_
      simp only at hi ⊢
      rw [flat_len f k hk] at hi
      have hq : i / k < xs.length := (Nat.div_lt_iff_lt_mul hk0).2 (by rw [Nat.mul_comm]; exact hi)
      have hr := Nat.mod_lt i hk0
      have hi2 : k * (i / k) + i % k = i := Nat.div_add_mod i k
      obtain ⟨_, hlen, hcell⟩ := World.cells?_some (hxs _ hq).2
      have e1 := hcell (i % k) hr
      have e2 := flat_get f k hk xs (i / k) hq (i % k) hr
      rw [hi2] at e2
      have e3 : (a.add (i / k * k)).add (i % k) = a.add i := by rw [Go.Deep.add_add, Nat.mul_comm, hi2]
      rw [e3] at e1
      rw [e1, ← e2]
      exact List.getElem?_eq_getElem _
    · obtain ⟨i, hi, rfl⟩ := List.getElem_of_mem hxm
      exact (hxs i hi).1

/-- A struct that came in by value. -/
theorem param_structB {α : Type} {f : α → List Value} {ok : α → Prop} {m : α → Nat} {t : TypeId} {fs : Array Field} {base : Nat} {v : Value} {d : DataW H} {ps : List MemPlace} (ht : P.underlying t = some (.struct fs)) (ho : OpensIn enc P W t f ok m)
    (hv : Value.okWide P W .any base t v) (h : DataW.Trod enc P W 0 (fun _ => true) true t v d ps) (hlt : Light P t d) : ∃ x, v = .agg (f x).toArray ∧ ok x ∧ m x ≤ Rows.uptoBulk d := by
  obtain ⟨cs, rfl, _⟩ := okWide_struct ht hv
  obtain ⟨n, hf⟩ := h
  obtain ⟨x, e, hok, hm⟩ := ho _ _ _ hf hlt
  refine ⟨x, ?_, hok, hm⟩
  have e2 : cs.toList = f x := by simpa [Value.cells] using e
  rw [← e2]
theorem param_sliceB {α : Type} {f : α → List Value} {ok : α → Prop} {m : α → Nat} {t e : TypeId} {base : Nat} {v : Value} {d : DataW H} {ps : List MemPlace} (ht : P.underlying t = some (.slice e)) (ho : OpensIn enc P W t f ok m)
    (hv : Value.okWide P W .any base t v) (h : DataW.Trod enc P W 0 (fun _ => true) true t v d ps) (hlt : Light P t d) : ∃ x, [v] = f x ∧ ok x ∧ m x ≤ Rows.uptoBulk d := by
  obtain ⟨a1, len1, cap1, rfl⟩ := okWide_slice ht hv
  obtain ⟨n, hf⟩ := h
  obtain ⟨x, e, hok, hm⟩ := ho _ _ _ hf hlt
  exact ⟨x, by simpa [Value.cells] using e, hok, hm⟩
end
end Go.Proofs.Ythmockfeffikjaa
namespace Go.Proofs.Ythmockfeffikjaa
open Go.RowKit Go.ChangeShapes Go.WideShapes Go.ChangeAt

def CeR.ok (W : World) (z : CeR) : Prop := z.x.ok ∧ SlAt W z.p z.c z.x.came ∧ z.x.came.length ≤ 17592186043904
def Ac.cells (a : Ac) : List Value := [i64 a.kind, i64 a.cell, i64 a.old, i64 a.new]

section
variable {H : Type} {enc : TypeId × Value → H} {W : World}
theorem fieldk {ty : TypeId} {off m : Nat} {cs l : List Value} (hc : Try.prog.cellsOf ty = m) (e : List.take (Try.prog.cellsOf ty) (List.drop off cs) = l) : (cs.drop off).take m = l := by rw [← hc]; exact e

set_option maxRecDepth 100000 in
theorem opens_cell : OpensAs enc Try.prog W 30 CeR.cells (CeR.ok W) := fun n cs y h hlt => by
  obtain ⟨xs, k, rfl, rfl, hlen, hxl, hf⟩ := DataW.trod_struct Try.underlying30 h
  have hlen : cs.length = 7 := hlen.trans (by kernel_rfl)
  have hxl : xs.length = 7 := hxl
  have c2 : Try.prog.cellsOf 2 = 1 := by kernel_rfl
  have c3 : Try.prog.cellsOf 3 = 1 := by kernel_rfl
  have c4 : Try.prog.cellsOf 4 = 1 := by kernel_rfl
  have c22 : Try.prog.cellsOf 23 = 1 := by kernel_rfl
  obtain ⟨n0, e0, w0⟩ := opens_int Try.underlying3 _ _ _ ((hf 0 _ rfl).trans (List.getElem?_eq_getElem (by omega))) (light_field Try.underlying30 hlt (j := 0) rfl (List.getElem?_eq_getElem (by omega)))
  obtain ⟨n1, e1, w1⟩ := opens_int Try.underlying2 _ _ _ ((hf 1 _ rfl).trans (List.getElem?_eq_getElem (by omega))) (light_field Try.underlying30 hlt (j := 1) rfl (List.getElem?_eq_getElem (by omega)))
  obtain ⟨n2, e2, w2⟩ := opens_int Try.underlying3 _ _ _ ((hf 2 _ rfl).trans (List.getElem?_eq_getElem (by omega))) (light_field Try.underlying30 hlt (j := 2) rfl (List.getElem?_eq_getElem (by omega)))
  obtain ⟨n3, e3, w3⟩ := opens_int Try.underlying3 _ _ _ ((hf 3 _ rfl).trans (List.getElem?_eq_getElem (by omega))) (light_field Try.underlying30 hlt (j := 3) rfl (List.getElem?_eq_getElem (by omega)))
  obtain ⟨⟨p4, q4, l4⟩, e4, w4⟩ := opens_intSlice Try.underlying23 Try.underlying3 c3 8 (by kernel_rfl) _ _ _ ((hf 4 _ rfl).trans (List.getElem?_eq_getElem (by omega))) (light_field Try.underlying30 hlt (j := 4) rfl (List.getElem?_eq_getElem (by omega)))
  obtain ⟨n5, e5, w5⟩ := opens_int Try.underlying2 _ _ _ ((hf 5 _ rfl).trans (List.getElem?_eq_getElem (by omega))) (light_field Try.underlying30 hlt (j := 5) rfl (List.getElem?_eq_getElem (by omega)))
  obtain ⟨n6, e6, w6⟩ := opens_bool Try.underlying4 _ _ _ ((hf 6 _ rfl).trans (List.getElem?_eq_getElem (by omega))) (light_field Try.underlying30 hlt (j := 6) rfl (List.getElem?_eq_getElem (by omega)))
  have e0 := fieldk (off := 0) c3 e0
  have e1 := fieldk (off := 1) c2 e1
  have e2 := fieldk (off := 2) c3 e2
  have e3 := fieldk (off := 3) c3 e3
  have e4 := fieldk (off := 4) c22 e4
  have e5 := fieldk (off := 5) c2 e5
  have e6 := fieldk (off := 6) c4 e6
  match cs, hlen with
  | [v0, v1, v2, v3, v4, v5, v6], _ =>
    simp at e0 e1 e2 e3 e4 e5 e6
    subst e0 e1 e2 e3 e4 e5 e6
    refine ⟨⟨⟨n0, n1, n2, n3, l4, n5, n6⟩, p4, q4⟩, rfl, ⟨wf_i64 w0, wf_i64 w1, wf_i64 w2, wf_i64 w3, wf_i64 w5, fun v hv => wf_i64 (w4.2.2.2.2.1 v hv)⟩, ⟨w4.1, w4.2.1, w4.2.2.1, w4.2.2.2.1⟩, by have h8 := w4.2.2.2.2.2; have h9 := w4.1; simp only at h8 h9 ⊢; omega⟩

set_option maxRecDepth 100000 in
theorem opens_access : OpensAs enc Try.prog W 34 Ac.cells Ac.ok := fun n cs y h hlt => by
  obtain ⟨xs, k, rfl, rfl, hlen, hxl, hf⟩ := DataW.trod_struct Try.underlying34 h
  have hlen : cs.length = 4 := hlen.trans (by kernel_rfl)
  have hxl : xs.length = 4 := hxl
  have c2 : Try.prog.cellsOf 2 = 1 := by kernel_rfl
  have c3 : Try.prog.cellsOf 3 = 1 := by kernel_rfl
  obtain ⟨n0, e0, w0⟩ := opens_int Try.underlying3 _ _ _ ((hf 0 _ rfl).trans (List.getElem?_eq_getElem (by omega))) (light_field Try.underlying34 hlt (j := 0) rfl (List.getElem?_eq_getElem (by omega)))
  obtain ⟨n1, e1, w1⟩ := opens_int Try.underlying3 _ _ _ ((hf 1 _ rfl).trans (List.getElem?_eq_getElem (by omega))) (light_field Try.underlying34 hlt (j := 1) rfl (List.getElem?_eq_getElem (by omega)))
  obtain ⟨n2, e2, w2⟩ := opens_int Try.underlying2 _ _ _ ((hf 2 _ rfl).trans (List.getElem?_eq_getElem (by omega))) (light_field Try.underlying34 hlt (j := 2) rfl (List.getElem?_eq_getElem (by omega)))
  obtain ⟨n3, e3, w3⟩ := opens_int Try.underlying2 _ _ _ ((hf 3 _ rfl).trans (List.getElem?_eq_getElem (by omega))) (light_field Try.underlying34 hlt (j := 3) rfl (List.getElem?_eq_getElem (by omega)))
  have e0 := fieldk (off := 0) c3 e0
  have e1 := fieldk (off := 1) c3 e1
  have e2 := fieldk (off := 2) c2 e2
  have e3 := fieldk (off := 3) c2 e3
  match cs, hlen with
  | [v0, v1, v2, v3], _ =>
    simp at e0 e1 e2 e3
    subst e0 e1 e2 e3
    exact ⟨⟨n0, n1, n2, n3⟩, rfl, wf_i64 w0, wf_i64 w1, wf_i64 w2, wf_i64 w3⟩
end
end Go.Proofs.Ythmockfeffikjaa
namespace Go.Proofs.Ythmockfeffikjaa
open Go.RowKit Go.ChangeShapes Go.WideShapes Go.ChangeAt

structure SetR where
  cp : Option Addr
  cc : Nat
  zs : List CeR
  wp : Option Addr
  wc : Nat
  ws : List (Option Addr × Nat × List Ac)
  kp : Option Addr
  kc : Nat
  ps : List Int
def SetR.cells (z : SetR) : List Value := [.slice z.cp z.zs.length z.cc, .slice z.wp z.ws.length z.wc, .slice z.kp z.ps.length z.kc]
def lisV (z : Option Addr × Nat × List Ac) : List Value := [.slice z.1 z.2.2.length z.2.1]
def LisOk (W : World) (z : Option Addr × Nat × List Ac) : Prop := z.2.2.length ≤ z.2.1 ∧ z.2.1 ≤ maxLen ∧ (z.1 = none → z.2.1 = 0) ∧ Row W z.1 (z.2.2.flatMap Ac.cells) ∧ (∀ x ∈ z.2.2, Ac.ok x) ∧ z.2.1 * 32 ≤ 140737488351232
structure SetR.ok (W : World) (z : SetR) : Prop where
  c : z.zs.length ≤ z.cc ∧ z.cc ≤ maxLen ∧ (z.cp = none → z.cc = 0) ∧ Row W z.cp (ceRow z.zs) ∧ ∀ x ∈ z.zs, CeR.ok W x
  w : z.ws.length ≤ z.wc ∧ z.wc ≤ maxLen ∧ (z.wp = none → z.wc = 0) ∧ Row W z.wp (z.ws.flatMap lisV) ∧ ∀ x ∈ z.ws, LisOk W x
  k : z.ps.length ≤ z.kc ∧ z.kc ≤ maxLen ∧ (z.kp = none → z.kc = 0) ∧ Row W z.kp (z.ps.map (Value.int .i64)) ∧ ∀ n ∈ z.ps, (Lit.int .i64 n).wf = true

section
variable {H : Type} {enc : TypeId × Value → H} {W : World}
set_option maxRecDepth 100000 in
theorem opens_setup : OpensAs enc Try.prog W 28 SetR.cells (SetR.ok W) := fun n cs y h hlt => by
  obtain ⟨xs, k, rfl, rfl, hlen, hxl, hf⟩ := DataW.trod_struct Try.underlying28 h
  have hlen : cs.length = 3 := hlen.trans (by kernel_rfl)
  have hxl : xs.length = 3 := hxl
  have k0 : Try.prog.cellsOf 25 = 1 := by kernel_rfl
  have k1 : Try.prog.cellsOf 26 = 1 := by kernel_rfl
  have k2 : Try.prog.cellsOf 23 = 1 := by kernel_rfl
  have k3 : Try.prog.cellsOf 3 = 1 := by kernel_rfl
  have b1 : Try.prog.bytesOf 34 = 32 := by kernel_rfl
  have hce : OpensAs enc Try.prog W 25 _ _ := opens_slice (k := 7) Try.underlying25 (by kernel_rfl) (by decide) (fun _ => rfl) opens_cell
  have hac : OpensAs enc Try.prog W 32 _ _ := opens_slice (k := 4) Try.underlying32 (by kernel_rfl) (by decide) (fun _ => rfl) opens_access
  have hll : OpensAs enc Try.prog W 26 _ _ := opens_slice (k := 1) Try.underlying26 (by kernel_rfl) (by decide) (fun _ => rfl) hac
  obtain ⟨⟨p0, c0, l0⟩, e0, w0⟩ := hce _ _ _ ((hf 0 _ rfl).trans (List.getElem?_eq_getElem (by omega))) (light_field Try.underlying28 hlt (j := 0) rfl (List.getElem?_eq_getElem (by omega)))
  obtain ⟨⟨p1, c1, l1⟩, e1, w1⟩ := hll _ _ _ ((hf 1 _ rfl).trans (List.getElem?_eq_getElem (by omega))) (light_field Try.underlying28 hlt (j := 1) rfl (List.getElem?_eq_getElem (by omega)))
  obtain ⟨⟨p2, c2, l2⟩, e2, w2⟩ := opens_intSlice Try.underlying23 Try.underlying3 k3 8 (by kernel_rfl) _ _ _ ((hf 2 _ rfl).trans (List.getElem?_eq_getElem (by omega))) (light_field Try.underlying28 hlt (j := 2) rfl (List.getElem?_eq_getElem (by omega)))
  have e0 := fieldk (off := 0) k0 e0
  have e1 := fieldk (off := 1) k1 e1
  have e2 := fieldk (off := 2) k2 e2
  match cs, hlen with
  | [v0, v1, v2], _ =>
    simp at e0 e1 e2
    subst e0 e1 e2
    refine ⟨⟨p0, c0, l0, p1, c1, l1, p2, c2, l2⟩, rfl, ⟨⟨w0.1, w0.2.1, w0.2.2.1, w0.2.2.2.1, w0.2.2.2.2.1⟩, ⟨w1.1, w1.2.1, w1.2.2.1, w1.2.2.2.1, fun x hx => ?_⟩, ⟨w2.1, w2.2.1, w2.2.2.1, w2.2.2.2.1, w2.2.2.2.2.1⟩⟩⟩
    have hx := w1.2.2.2.2.1 x hx
    rw [b1] at hx
    exact hx
end
end Go.Proofs.Ythmockfeffikjaa
namespace Go.Proofs.Ythmockfeffikjaa
open Go.RowKit
variable {W : World} {z : SetR}

def SetR.work (z : SetR) : List (List Ac) := z.ws.map (fun x => x.2.2)
def SetR.qs (z : SetR) : List (Option Addr × Nat) := z.ws.map (fun x => (x.1, x.2.1))
theorem SetR.work_len (z : SetR) : z.work.length = z.ws.length := by simp [SetR.work]
theorem SetR.cells_eq (z : SetR) : z.cells = [.slice z.cp z.zs.length z.cc, .slice z.wp z.work.length z.wc, .slice z.kp z.ps.length z.kc] := by unfold SetR.cells; rw [z.work_len]
theorem wk_flat : ∀ ws : List (Option Addr × Nat × List Ac), wkCells (ws.map (fun x => (x.1, x.2.1))) (ws.map (fun x => x.2.2)) = ws.flatMap lisV
  | [] => rfl
  | x :: l => by
    simp only [List.map_cons, wkCells, List.flatMap_cons, lisV, List.cons_append, List.nil_append]
    rw [wk_flat l]
theorem SetR.ok.workIs (h : z.ok W) : WorkIs W z.wp z.wc z.qs z.work (fun _ => True) := by
  obtain ⟨h1, h2, h3, h4, h5⟩ := h.w
  refine ⟨by unfold SetR.qs SetR.work; rw [wk_flat]; exact h4, ⟨by rw [z.work_len]; exact h1, h2⟩, by simp [SetR.qs, SetR.work], fun i k1 k2 => ?_, fun _ _ _ => trivial, fun _ _ _ _ _ _ => trivial⟩
  have hi : i < z.ws.length := by rw [← z.work_len]; exact k2
  obtain ⟨g1, g2, g3, g4, _⟩ := h5 _ (List.getElem_mem hi)
  have e1 : z.qs[i] = (z.ws[i].1, z.ws[i].2.1) := by simp [SetR.qs]
  have e2 : z.work[i] = z.ws[i].2.2 := by simp [SetR.work]
  rw [e1, e2]
  exact ⟨g1, g2, g3, g4⟩
theorem SetR.ok.short (h : z.ok W) : ∀ l ∈ z.work, l.length ≤ 4398046511104 := by
  intro l hl
  obtain ⟨x, hx, rfl⟩ := List.mem_map.1 hl
  obtain ⟨g1, _, _, _, _, g6⟩ := h.w.2.2.2.2 x hx
  omega
theorem SetR.ok.came (h : z.ok W) : ∀ x ∈ z.zs, x.x.came.length ≤ 17592186043904 := fun x hx => (h.c.2.2.2.2 x hx).2.2
theorem SetR.ok.sl (h : z.ok W) : ∀ x ∈ z.zs, SlAt W x.p x.c x.x.came := fun x hx => (h.c.2.2.2.2 x hx).2.1
/-- few, at a setup that came in. -/
theorem few_at (h : z.ok W) : Calls Try.prog 13 #[.agg z.cells.toArray] W fun e w' => e = .returned (.bool (fewS z.zs z.work z.ps)) ∧ Below W.heap.size W w' := by
  rw [z.cells_eq]
  exact fewS_any z.cp z.cc z.zs h.c.1 h.c.2.1 h.c.2.2.2.1 z.wp z.wc z.qs z.work (fun _ => True) h.workIs z.kp z.kc z.ps h.k.1 h.k.2.1 (fun l hl => by have := h.short l hl; omega) (fun x hx => by have := h.came x hx; omega)
theorem newlists_at (h : z.ok W) : Calls Try.prog 10 #[.slice z.cp z.zs.length z.cc, .slice z.wp z.work.length z.wc] W (NLTell W (z.zs.map CeR.x) z.work) :=
  newlists_any z.cp z.cc z.zs W h.c.1 h.c.2.1 h.c.2.2.2.1 h.sl h.came z.wp z.wc z.qs z.work (fun _ => True) h.workIs h.short
theorem SetR.ok.below {W' : World} (h : z.ok W) (hb : Below W.heap.size W W') : z.ok W' :=
  ⟨⟨h.c.1, h.c.2.1, h.c.2.2.1, h.c.2.2.2.1.below hb, fun x hx => by
      obtain ⟨a, b, c⟩ := h.c.2.2.2.2 x hx
      exact ⟨a, ⟨b.1, b.2.1, b.2.2.1, b.2.2.2.below hb⟩, c⟩⟩,
   ⟨h.w.1, h.w.2.1, h.w.2.2.1, h.w.2.2.2.1.below hb, fun x hx => by
      obtain ⟨a, b, c, d, e⟩ := h.w.2.2.2.2 x hx
      exact ⟨a, b, c, d.below hb, e⟩⟩,
   ⟨h.k.1, h.k.2.1, h.k.2.2.1, h.k.2.2.2.1.below hb, h.k.2.2.2.2⟩⟩
end Go.Proofs.Ythmockfeffikjaa
