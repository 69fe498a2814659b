/-
  Cells, accesses and who does what, as they come in.
-/
import Derived.Test.YtfpgdaefdpjcmaaOpenG
import Derived.Test.YtfpgdaefdpjcmaaFew
namespace Go.Proofs.Ytfpgdaefdpjcmaa
open Go.RowKit Go.ChangeShapes Go.WideShapes Go.ChangeAt

def CeR.ok (W : World) (z : CeR) : Prop := z.x.ok ∧ SlAt W z.p z.c z.x.came ∧ z.x.came.length ≤ 17592186043904
structure DoR where
  wk : Int
  a : Ac
def Ac.cells (a : Ac) : List Value := [i64 a.kind, i64 a.cell, i64 a.old, i64 a.new]
def DoR.cells (z : DoR) : List Value := [i64 z.wk, i64 z.a.kind, i64 z.a.cell, i64 z.a.old, i64 z.a.new]
def DoR.ok (z : DoR) : Prop := inI64 z.wk ∧ z.a.ok

section
variable {H : Type} {enc : TypeId × Value → H} {W : World}
theorem fieldk {ty : TypeId} {off m : Nat} {cs l : List Value} (hc : Try.prog.cellsOf ty = m) (e : List.take (Try.prog.cellsOf ty) (List.drop off cs) = l) : (cs.drop off).take m = l := by rw [← hc]; exact e

theorem opens_cell : OpensAs enc Try.prog W 24 CeR.cells (CeR.ok W) := fun n cs y h hlt => by
  obtain ⟨xs, k, rfl, rfl, hlen, hxl, hf⟩ := DataW.trod_struct Try.underlying24 h
  have hlen : cs.length = 7 := hlen.trans (by kernel_rfl)
  have hxl : xs.length = 7 := hxl
  have c2 : Try.prog.cellsOf 2 = 1 := by kernel_rfl
  have c3 : Try.prog.cellsOf 3 = 1 := by kernel_rfl
  have c4 : Try.prog.cellsOf 4 = 1 := by kernel_rfl
  have c22 : Try.prog.cellsOf 22 = 1 := by kernel_rfl
  obtain ⟨n0, e0, w0⟩ := opens_int Try.underlying3 _ _ _ ((hf 0 _ rfl).trans (List.getElem?_eq_getElem (by omega))) (light_field Try.underlying24 hlt (j := 0) rfl (List.getElem?_eq_getElem (by omega)))
  obtain ⟨n1, e1, w1⟩ := opens_int Try.underlying2 _ _ _ ((hf 1 _ rfl).trans (List.getElem?_eq_getElem (by omega))) (light_field Try.underlying24 hlt (j := 1) rfl (List.getElem?_eq_getElem (by omega)))
  obtain ⟨n2, e2, w2⟩ := opens_int Try.underlying3 _ _ _ ((hf 2 _ rfl).trans (List.getElem?_eq_getElem (by omega))) (light_field Try.underlying24 hlt (j := 2) rfl (List.getElem?_eq_getElem (by omega)))
  obtain ⟨n3, e3, w3⟩ := opens_int Try.underlying3 _ _ _ ((hf 3 _ rfl).trans (List.getElem?_eq_getElem (by omega))) (light_field Try.underlying24 hlt (j := 3) rfl (List.getElem?_eq_getElem (by omega)))
  obtain ⟨⟨p4, q4, l4⟩, e4, w4⟩ := opens_intSlice Try.underlying22 Try.underlying3 c3 8 (by kernel_rfl) _ _ _ ((hf 4 _ rfl).trans (List.getElem?_eq_getElem (by omega))) (light_field Try.underlying24 hlt (j := 4) rfl (List.getElem?_eq_getElem (by omega)))
  obtain ⟨n5, e5, w5⟩ := opens_int Try.underlying2 _ _ _ ((hf 5 _ rfl).trans (List.getElem?_eq_getElem (by omega))) (light_field Try.underlying24 hlt (j := 5) rfl (List.getElem?_eq_getElem (by omega)))
  obtain ⟨n6, e6, w6⟩ := opens_bool Try.underlying4 _ _ _ ((hf 6 _ rfl).trans (List.getElem?_eq_getElem (by omega))) (light_field Try.underlying24 hlt (j := 6) rfl (List.getElem?_eq_getElem (by omega)))
  have e0 := fieldk (off := 0) c3 e0
  have e1 := fieldk (off := 1) c2 e1
  have e2 := fieldk (off := 2) c3 e2
  have e3 := fieldk (off := 3) c3 e3
  have e4 := fieldk (off := 4) c22 e4
  have e5 := fieldk (off := 5) c2 e5
  have e6 := fieldk (off := 6) c4 e6
  match cs, hlen with
  | [v0, v1, v2, v3, v4, v5, v6], _ =>
    simp at e0 e1 e2 e3 e4 e5 e6
    subst e0 e1 e2 e3 e4 e5 e6
    refine ⟨⟨⟨n0, n1, n2, n3, l4, n5, n6⟩, p4, q4⟩, rfl, ⟨wf_i64 w0, wf_i64 w1, wf_i64 w2, wf_i64 w3, wf_i64 w5, fun v hv => wf_i64 (w4.2.2.2.2.1 v hv)⟩, ⟨w4.1, w4.2.1, w4.2.2.1, w4.2.2.2.1⟩, by have h8 := w4.2.2.2.2.2; have h9 := w4.1; simp only at h8 h9 ⊢; omega⟩

theorem opens_access : OpensAs enc Try.prog W 26 Ac.cells Ac.ok := fun n cs y h hlt => by
  obtain ⟨xs, k, rfl, rfl, hlen, hxl, hf⟩ := DataW.trod_struct Try.underlying26 h
  have hlen : cs.length = 4 := hlen.trans (by kernel_rfl)
  have hxl : xs.length = 4 := hxl
  have c2 : Try.prog.cellsOf 2 = 1 := by kernel_rfl
  have c3 : Try.prog.cellsOf 3 = 1 := by kernel_rfl
  obtain ⟨n0, e0, w0⟩ := opens_int Try.underlying3 _ _ _ ((hf 0 _ rfl).trans (List.getElem?_eq_getElem (by omega))) (light_field Try.underlying26 hlt (j := 0) rfl (List.getElem?_eq_getElem (by omega)))
  obtain ⟨n1, e1, w1⟩ := opens_int Try.underlying3 _ _ _ ((hf 1 _ rfl).trans (List.getElem?_eq_getElem (by omega))) (light_field Try.underlying26 hlt (j := 1) rfl (List.getElem?_eq_getElem (by omega)))
  obtain ⟨n2, e2, w2⟩ := opens_int Try.underlying2 _ _ _ ((hf 2 _ rfl).trans (List.getElem?_eq_getElem (by omega))) (light_field Try.underlying26 hlt (j := 2) rfl (List.getElem?_eq_getElem (by omega)))
  obtain ⟨n3, e3, w3⟩ := opens_int Try.underlying2 _ _ _ ((hf 3 _ rfl).trans (List.getElem?_eq_getElem (by omega))) (light_field Try.underlying26 hlt (j := 3) rfl (List.getElem?_eq_getElem (by omega)))
  have e0 := fieldk (off := 0) c3 e0
  have e1 := fieldk (off := 1) c3 e1
  have e2 := fieldk (off := 2) c2 e2
  have e3 := fieldk (off := 3) c2 e3
  match cs, hlen with
  | [v0, v1, v2, v3], _ =>
    simp at e0 e1 e2 e3
    subst e0 e1 e2 e3
    exact ⟨⟨n0, n1, n2, n3⟩, rfl, wf_i64 w0, wf_i64 w1, wf_i64 w2, wf_i64 w3⟩

theorem opens_do : OpensAs enc Try.prog W 44 DoR.cells DoR.ok := fun n cs y h hlt => by
  obtain ⟨xs, k, rfl, rfl, hlen, hxl, hf⟩ := DataW.trod_struct Try.underlying44 h
  have hlen : cs.length = 5 := hlen.trans (by kernel_rfl)
  have hxl : xs.length = 2 := hxl
  have c3 : Try.prog.cellsOf 3 = 1 := by kernel_rfl
  have c26 : Try.prog.cellsOf 26 = 4 := by kernel_rfl
  obtain ⟨n0, e0, w0⟩ := opens_int Try.underlying3 _ _ _ ((hf 0 _ rfl).trans (List.getElem?_eq_getElem (by omega))) (light_field Try.underlying44 hlt (j := 0) rfl (List.getElem?_eq_getElem (by omega)))
  obtain ⟨a, e1, w1⟩ := opens_access _ _ _ ((hf 1 _ rfl).trans (List.getElem?_eq_getElem (by omega))) (light_field Try.underlying44 hlt (j := 1) rfl (List.getElem?_eq_getElem (by omega)))
  have e0 := fieldk (off := 0) c3 e0
  have e1 := fieldk (off := 1) c26 e1
  match cs, hlen with
  | [v0, v1, v2, v3, v4], _ =>
    simp [Ac.cells] at e0 e1
    obtain ⟨e1, e2, e3, e4⟩ := e1
    subst e0 e1 e2 e3 e4
    exact ⟨⟨n0, a⟩, rfl, wf_i64 w0, w1⟩
end
end Go.Proofs.Ytfpgdaefdpjcmaa
