/-
  The walk of slices.Clone at slices of int.
-/
import Derived.Test.YthmockfeffikjaaInts
namespace Go.Proofs.Ythmockfeffikjaa
open Go.RowKit

theorem EI : Elem Try.prog 23 3 1 8 (.int .i64 0) := Elem.mk' Try.underlying23 (by kernel_rfl) rfl (by decide)
def CloneIPost (l : List Int) (w : World) (e : Ending) (w' : World) : Prop :=
  ∃ v, e = .returned v ∧ w'.ownsRow w.heap.size 3 1 v l.length (i64s l) ∧ Below w.heap.size w w'

set_option maxHeartbeats 1000000 in
theorem cloneI_any (p : Option Addr) (c : Nat) (l : List Int) (w : World) (hm : l.length ≤ 17592186043904) (hp : p = none → c = 0) (hrow : Row w p (i64s l)) :
    Calls Try.prog 57 #[.slice p l.length c] w (CloneIPost l w) := by
  cases p with
  | none =>
    have hc := hp rfl
    subst hc
    have h0 : l = [] := by
      apply Classical.byContradiction
      intro hne
      obtain ⟨b, o, e, _⟩ := hrow (by simpa using hne)
      cases e
    subst h0
    have hnil := fun (w : World) => Lib.run_eql_slice_nil (P := Try.prog) w 23 3 none 0 0 0 0 Try.underlying23
    go_enter Try.func57, Try.ntmps57
    go_wp2
    go_ret
    exact ⟨_, rfl, World.ownsRow_nil _ _ _ _, Below.refl _ _⟩
  | some a =>
    have hnil := fun (w : World) (n c : Nat) => Lib.run_eql_slice_nil (P := Try.prog) w 23 3 (some a) n c 0 0 Try.underlying23
    go_enter Try.func57, Try.ntmps57
    go_wp2_with ((with_reducible show wpList _ _ _ (⟨some 7, _, _, _, _, _⟩ :: _) _ _); go_loud (refine wpList_app EI rfl _ _ rfl w.heap.size _ 0 [] rfl (own_new w [] 3 w.heap.size 0 1 (Nat.le_refl _) rfl (by decide)) _ _ _ (i64s l) rfl (by simp) hp (hrow.alloc _) (ints_one l) (by unfold maxLen; omega) (by omega) (by simp) ?_); intro v2 w2 ho2 hg2 hs2; rw [Nat.zero_add, List.nil_append] at ho2)
    have hg2 : (w.alloc (.cells #[] 3)).grownBy w2 (some w.heap.size) := hg2
    go_ret
    exact ⟨v2, rfl, ho2, ((Below.refl _ _).alloc (Nat.le_refl _) _).grown hg2 (by simp) (by rintro k e; cases e; exact Nat.le_refl _)⟩
end Go.Proofs.Ythmockfeffikjaa
