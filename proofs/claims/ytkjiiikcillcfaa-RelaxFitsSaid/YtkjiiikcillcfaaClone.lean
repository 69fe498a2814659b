/-
  The walk of slices.Clone at bools.
-/
import Derived.Test.YtkjiiikcillcfaaLaw
import Derived.Lib.SliceRun
namespace Go.Proofs.Ytkjiiikcillcfaa
open Go.RowKit

def ClonePost (ls : List Bool) (w : World) (e : Ending) (w' : World) : Prop :=
  ∃ v, e = .returned v ∧ w'.ownsRow w.heap.size 4 1 v ls.length (bools ls) ∧ Below w.heap.size w w'

set_option maxHeartbeats 1000000 in
theorem clone_any (p : Option Addr) (c : Nat) (ls : List Bool) (w : World) (hm : ls.length ≤ 1000000) (hp : p = none → c = 0) (hrow : Row w p (bools ls)) :
    Calls Try.prog 38 #[.slice p ls.length c] w (ClonePost ls w) := by
  cases p with
  | none =>
    have hc := hp rfl
    subst hc
    have h0 : ls = [] := by
      apply Classical.byContradiction
      intro hne
      obtain ⟨b, o, e, _⟩ := hrow (by simpa [bools] using hne)
      cases e
    subst h0
    have hnil := fun (w : World) => Lib.run_eql_slice_nil (P := Try.prog) w 23 4 none 0 0 0 0 Try.underlying23
    go_enter Try.func38, Try.ntmps38
    go_wp2
    go_ret
    exact ⟨_, rfl, World.ownsRow_nil _ _ _ _, Below.refl _ _⟩
  | some a =>
    have hnil := fun (w : World) (n c : Nat) => Lib.run_eql_slice_nil (P := Try.prog) w 23 4 (some a) n c 0 0 Try.underlying23
    go_enter Try.func38, Try.ntmps38
    go_wp2_with ((with_reducible show wpList _ _ _ (⟨some 7, _, _, _, _, _⟩ :: _) _ _); go_loud (refine wpList_app E23 rfl _ _ rfl w.heap.size _ 0 [] rfl (own_new w [] 4 w.heap.size 0 1 (Nat.le_refl _) rfl (by decide)) _ _ _ (bools ls) rfl (by simp [bools]) hp (hrow.alloc _) (by intro u hu; simp [bools] at hu; rcases hu with ⟨_, rfl⟩ | ⟨_, rfl⟩ <;> rfl) (by unfold maxLen; omega) (by omega) (by simp) ?_); intro v2 w2 ho2 hg2 hs2; rw [Nat.zero_add, List.nil_append] at ho2)
    have hg2 : (w.alloc (.cells #[] 4)).grownBy w2 (some w.heap.size) := hg2
    go_ret
    exact ⟨v2, rfl, ho2, ((Below.refl _ _).alloc (Nat.le_refl _) _).grown hg2 (by simp) (by rintro k e; cases e; exact Nat.le_refl _)⟩
end Go.Proofs.Ytkjiiikcillcfaa
