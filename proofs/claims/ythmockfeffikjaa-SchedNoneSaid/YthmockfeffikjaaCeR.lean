/-
  Rows of cells.
-/
import Derived.Test.YthmockfeffikjaaOne
import Derived.Test.YthmockfeffikjaaOpenR
namespace Go.Proofs.Ythmockfeffikjaa
open Go.RowKit

/-- A cell with where its slice lies. -/
structure CeR where
  x : Ce
  p : Option Addr
  c : Nat
def CeR.cells (y : CeR) : List Value := [i64 y.x.kind, i64 y.x.n, i64 y.x.owner, i64 y.x.need, .slice y.p y.x.came.length y.c, i64 y.x.turns, .bool y.x.there]
def ceRow (ys : List CeR) : List Value := ys.flatMap CeR.cells
theorem ceRow_len (ys : List CeR) : (ceRow ys).length = 7 * ys.length := flat_len _ 7 (fun _ => rfl) ys

/-- The seven cells of element k. -/
theorem ce_cells {w : World} {b o : Nat} {ys : List CeR} (h : Row w (some ⟨b, o, none⟩) (ceRow ys)) (k : Nat) (hk : k < ys.length) :
    w.cell? ⟨b, o + k * 7, none⟩ = some (i64 ys[k].x.kind) ∧ w.cell? ⟨b, o + k * 7 + 1, none⟩ = some (i64 ys[k].x.n) ∧ w.cell? ⟨b, o + k * 7 + 2, none⟩ = some (i64 ys[k].x.owner) ∧ w.cell? ⟨b, o + k * 7 + 3, none⟩ = some (i64 ys[k].x.need) ∧
    w.cell? ⟨b, o + k * 7 + 4, none⟩ = some (.slice ys[k].p ys[k].x.came.length ys[k].c) ∧ w.cell? ⟨b, o + k * 7 + 5, none⟩ = some (i64 ys[k].x.turns) ∧ w.cell? ⟨b, o + k * 7 + 6, none⟩ = some (.bool ys[k].x.there) := by
  have each : ∀ j (hj : j < 7), w.cell? ⟨b, o + (k * 7 + j), none⟩ = (CeR.cells ys[k])[j]? := fun j hj => by
    have hl := ceRow_len ys
    rw [show k * 7 + j = 7 * k + j from by omega]
    rw [h.cell (7 * k + j) (by omega), ← flat_get CeR.cells 7 (fun _ => rfl) ys k hk j hj]
    exact (List.getElem?_eq_getElem (by have : 7 * k + j < (ceRow ys).length := by omega
                                        exact this)).symm
  exact ⟨each 0 (by omega), each 1 (by omega), each 2 (by omega), each 3 (by omega), each 4 (by omega), each 5 (by omega), each 6 (by omega)⟩

end Go.Proofs.Ythmockfeffikjaa
