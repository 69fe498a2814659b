/-
  The walk of CellsOne, for whatever comes in.
-/
import Derived.Test.YtfpgdaefdpjcmaaCOne
namespace Go.Proofs.Ytfpgdaefdpjcmaa
open Go.RowKit Go.ChangeShapes Go.WideShapes Go.ChangeAt

def UseR.ok (W : World) (u : UseR) : Prop := u.z.ok W ∧ u.y.ok W
section
variable {H : Type} {enc : TypeId × Value → H} {W : World}
theorem opens_use : OpensAs enc Try.prog W 28 UseR.cells (UseR.ok W) := fun n cs y h hlt => by
  obtain ⟨xs, k, rfl, rfl, hlen, hxl, hf⟩ := DataW.trod_struct Try.underlying28 h
  have hlen : cs.length = 19 := hlen.trans (by kernel_rfl)
  have hxl : xs.length = 4 := hxl
  have c3 : Try.prog.cellsOf 3 = 1 := by kernel_rfl
  have c24 : Try.prog.cellsOf 24 = 7 := by kernel_rfl
  have c26 : Try.prog.cellsOf 26 = 4 := by kernel_rfl
  obtain ⟨z, e0, w0⟩ := opens_cell _ _ _ ((hf 0 _ rfl).trans (List.getElem?_eq_getElem (by omega))) (light_field Try.underlying28 hlt (j := 0) rfl (List.getElem?_eq_getElem (by omega)))
  obtain ⟨y, e1, w1⟩ := opens_cell _ _ _ ((hf 1 _ rfl).trans (List.getElem?_eq_getElem (by omega))) (light_field Try.underlying28 hlt (j := 1) rfl (List.getElem?_eq_getElem (by omega)))
  obtain ⟨wk, e2, w2⟩ := opens_int Try.underlying3 _ _ _ ((hf 2 _ rfl).trans (List.getElem?_eq_getElem (by omega))) (light_field Try.underlying28 hlt (j := 2) rfl (List.getElem?_eq_getElem (by omega)))
  obtain ⟨a, e3, w3⟩ := opens_access _ _ _ ((hf 3 _ rfl).trans (List.getElem?_eq_getElem (by omega))) (light_field Try.underlying28 hlt (j := 3) rfl (List.getElem?_eq_getElem (by omega)))
  have e0 := fieldk (off := 0) c24 e0
  have e1 := fieldk (off := 7) c24 e1
  have e2 := fieldk (off := 14) c3 e2
  have e3 := fieldk (off := 15) c26 e3
  match cs, hlen with
  | [v0, v1, v2, v3, v4, v5, v6, v7, v8, v9, v10, v11, v12, v13, v14, v15, v16, v17, v18], _ =>
    simp [CeR.cells, Ac.cells] at e0 e1 e2 e3
    obtain ⟨e00, e01, e02, e03, e04, e05, e06⟩ := e0
    obtain ⟨e10, e11, e12, e13, e14, e15, e16⟩ := e1
    obtain ⟨e30, e31, e32, e33⟩ := e3
    subst e00 e01 e02 e03 e04 e05 e06 e10 e11 e12 e13 e14 e15 e16 e2 e30 e31 e32 e33
    exact ⟨⟨z, y, wk, a⟩, rfl, w0, w1⟩
end

theorem cone_walk (w : World) (u : UseR) (ok : u.ok w) : Calls Try.prog 3 #[.agg u.cells.toArray] w fun e w' => e = .returned (.bool true) ∧ Below w.heap.size w w' :=
  one_walk0 w u ok.1 ok.2
end Go.Proofs.Ytfpgdaefdpjcmaa
