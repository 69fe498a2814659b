/-
  The law's own few, and an object of one section.
-/
import Derived.Test.YteccpmmedpkddaaEqP
import Derived.Deep.RegionHeld3
namespace Go.Proofs.Yteccpmmedpkddaa
open Go.RowKit

def fewL (o : Ob) : Bool := decide (o.secs.length ≤ 80) && decide (o.syms.length ≤ 300)
theorem few_any (o : Ob) (w : World) (ho : o.ok w) : Calls Try.prog 13 #[.agg o.cells.toArray] w fun e w' => e = .returned (.bool (fewL o)) ∧ Below w.heap.size w w' := by
  have hs := ho.scap
  have hy := ho.ycap
  unfold fewL
  obtain ⟨secs, sp, sc, syms, yp, yc⟩ := o
  dsimp only at hs hy ⊢
  clear ho
  obtain ⟨hs1, hs2, _⟩ := hs
  obtain ⟨hy1, hy2, _⟩ := hy
  show Calls Try.prog 13 #[.agg #[.slice sp secs.length sc, .slice yp syms.length yc]] w _
  go_enter Try.func13, Try.ntmps13
  go_wp2
  all_goals (go_ret; refine ⟨ret_bool ?_, (Below.refl _ _).alloc (Nat.le_refl _) _⟩)
  all_goals first
    | (have h1 : secs.length ≤ 80 := by omega
       rw [decide_eq_true h1, Bool.true_and]; simp; omega)
    | (have h1 : secs.length ≤ 80 := by omega
       rw [decide_eq_true h1, Bool.true_and]; simp)
    | (have h1 : ¬ secs.length ≤ 80 := by omega
       rw [decide_eq_false h1]; rfl)
end Go.Proofs.Yteccpmmedpkddaa
