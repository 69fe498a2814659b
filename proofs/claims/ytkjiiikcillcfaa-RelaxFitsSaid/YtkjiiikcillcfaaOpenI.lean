/-
  Items that came in, opened.
-/
import Derived.Test.YtkjiiikcillcfaaOpenR
import Derived.Test.YtkjiiikcillcfaaK
namespace Go.Proofs.Ytkjiiikcillcfaa
open Go.RowKit Go.ChangeShapes Go.WideShapes Go.ChangeAt

theorem wf_i64 {n : Int} (h : (Lit.int .i64 n).wf = true) : inI64 n := by
  simp [Lit.wf, IntKind.min, IntKind.max, IntKind.bits, IntKind.signed] at h
  simp only [inI64]
  omega

section
variable {H : Type} {enc : TypeId × Value → H} {W : World}
theorem item_field {k j off : Nat} {ty : TypeId} (ht : Try.prog.underlying ty = some (.int .i64)) (hc : Try.prog.cellsOf ty = 1) {cs : List Value} {ys : List (DataW H × List MemPlace)}
    (h : DataW.trod enc Try.prog W 0 (fun _ => true) true k ty ((cs.drop off).take (Try.prog.cellsOf ty)) = ys[j]?) (hj : j < ys.length) : ∃ n, cs[off]? = some (i64 n) ∧ inI64 n := by
  rw [hc, List.getElem?_eq_getElem hj] at h
  obtain ⟨n, e, _, w⟩ := DataW.trod_int ht h
  refine ⟨n, ?_, wf_i64 w⟩
  have := congrArg (fun l : List Value => l[0]?) e
  simpa [List.getElem?_take, List.getElem?_drop] using this

theorem open_item (n : Nat) (cs : List Value) (y : DataW H × List MemPlace) (h : DataW.trod enc Try.prog W 0 (fun _ => true) true n 34 cs = some y) : ∃ x : It, cs = x.cells ∧ x.ok := by
  obtain ⟨xs, k, rfl, _, hlen, hxl, hf⟩ := DataW.trod_struct Try.underlying34 h
  have hlen : cs.length = 7 := hlen.trans (by kernel_rfl)
  have hxl : xs.length = 7 := hxl
  have c3 : Try.prog.cellsOf 3 = 1 := by kernel_rfl
  have c2 : Try.prog.cellsOf 2 = 1 := by kernel_rfl
  obtain ⟨n0, e0, w0⟩ := item_field Try.underlying3 c3 (hf 0 _ rfl) (by omega)
  obtain ⟨n1, e1, w1⟩ := item_field Try.underlying2 c2 (hf 1 _ rfl) (by omega)
  obtain ⟨n2, e2, w2⟩ := item_field Try.underlying3 c3 (hf 2 _ rfl) (by omega)
  obtain ⟨n3, e3, w3⟩ := item_field Try.underlying3 c3 (hf 3 _ rfl) (by omega)
  obtain ⟨n4, e4, w4⟩ := item_field Try.underlying2 c2 (hf 4 _ rfl) (by omega)
  obtain ⟨n5, e5, w5⟩ := item_field Try.underlying2 c2 (hf 5 _ rfl) (by omega)
  obtain ⟨n6, e6, w6⟩ := item_field Try.underlying2 c2 (hf 6 _ rfl) (by omega)
  match cs, hlen with
  | [v0, v1, v2, v3, v4, v5, v6], _ =>
    simp at e0 e1 e2 e3 e4 e5 e6
    subst e0 e1 e2 e3 e4 e5 e6
    exact ⟨⟨n0, n1, n2, n3, n4, n5, n6⟩, rfl, w0, w1, w2, w3, w4, w5, w6⟩

/-- A slice of items that came in. -/
theorem open_itemsRow {base : Nat} {v : Value} {d : DataW H} {ps : List MemPlace} (hv : Value.okWide Try.prog W .any base 22 v) (h : DataW.Trod enc Try.prog W 0 (fun _ => true) true 22 v d ps) :
    ∃ (p : Option Addr) (c : Nat) (xs : List It), v = .slice p xs.length c ∧ xs.length ≤ c ∧ c ≤ maxLen ∧ Row W p (itCells xs) ∧ (∀ x ∈ xs, x.ok) ∧ (p = none → c = 0) :=
  open_rowGen (k := 7) It.cells It.ok Try.underlying22 (by kernel_rfl) (by decide) (fun _ => rfl) open_item hv h
end
end Go.Proofs.Ytkjiiikcillcfaa
