/-
  'delete(m, x)' at the operation, and what a map bears of stores elsewhere.
-/
import Derived.Test.YtfpgdaefdpjcmaaBase
namespace Go.Proofs.Ytfpgdaefdpjcmaa
open Go.RowKit
section
variable {κ β : Type} [DecidableEq κ] {P : Program} {k : TypeId} {mk : κ → Value} {mv : β → Value}
theorem wpList_mapdel {w : World} {ops : Array Oper} {rest : List Oper} {o : Oper} {a : Act} {Q : Exit → Act → World → Prop} {t el : TypeId}
    (K : KeyOk P k mk) (ht : P.underlying t = some (.map k el)) (hg : o.guard = none) (mo xo : Operand) (hop : o.op = .call { callee := .builtin .delete, args := #[mo, xo], argTypes := #[t, k] })
    (b : Nat) (m : List (κ × β)) (hm : a.eval mo = .map (some b)) (h : MapIs mk mv w b m) (x : κ) (hx : a.eval xo = mk x)
    (hK : ∀ w', MapIs mk mv w' b (adel m x) → w.grownBy w' (some b) → wpList P ops Q rest (a.put o.dst (.tuple #[])) w') : wpList P ops Q (o :: rest) a w := by
  refine wpList_plain hg fun K' hK' => ?_
  obtain ⟨w', hrun, r1, r2⟩ := h.run_delete K ht (ty := o.type) x
  unfold Oper.wp execOp
  simp only [hop, resolve, invoke, builtin, Sem.run_bind, Sem.run_pure, Result.andThen_ok, List.map_toArray, List.map_cons, List.map_nil, hm, hx, hrun]
  exact hK' _ _ (hK w' r1 r2)
omit [DecidableEq κ] in
theorem MapIs.setO {w : World} {b : Nat} {m : List (κ × β)} (h : MapIs mk mv w b m) (a : Addr) (v : Value) (hne : b ≠ a.block) : MapIs mk mv (w.setCell a v) b m := by
  obtain ⟨es, clock, h1, F⟩ := h
  exact ⟨es, clock, (Below.heap_setCell w a v b hne).trans h1, F⟩
end
end Go.Proofs.Ytfpgdaefdpjcmaa
