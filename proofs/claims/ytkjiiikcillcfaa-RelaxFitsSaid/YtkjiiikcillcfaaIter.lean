/-
  The walk of relax.Rounds: what it hands back, and that function's own.
-/
import Derived.LoopIn
import Derived.TacticsInMore
import Derived.Shelf.Abstract
import Derived.Shelf.RegionOpen
import Derived.Test.YtkjiiikcillcfaaOwnIn
import Derived.Test.YtkjiiikcillcfaaRange
import Derived.Test.YtkjiiikcillcfaaRefX
namespace Go.Proofs.Ytkjiiikcillcfaa
open Go.RowKit
attribute [local go_sem] Oper.semAt_some

theorem E22 : Elem Try.prog 22 34 7 56 (It.mk 0 0 0 0 0 0 0).val := Elem.mk' Try.underlying22 (by kernel_rfl) rfl (by decide)
theorem it_one (xs : List It) : ∀ u ∈ itCells xs, u.oneCell' = true := by
  intro u hu
  simp only [itCells, List.mem_flatMap, It.cells] at hu
  obtain ⟨x, _, hx⟩ := hu
  simp only [List.mem_cons, List.not_mem_nil, or_false] at hx
  rcases hx with h | h | h | h | h | h | h <;> subst h <;> rfl

set_option maxHeartbeats 1000000 in
theorem Rounds_any (p : Option Addr) (c : Nat) (xs : List It) (w : World) (hm : xs.length ≤ 1000000) (hrow : Row w p (itCells xs)) (hp : p = none → c = 0) :
    Calls Try.prog 31 #[.slice p xs.length c] w fun e w' => ∃ q d, e = .returned (.func (.func 41) #[] #[.pointer (some ⟨w.heap.size, 0, none⟩)]) ∧ w.heap.size < w'.heap.size ∧ w'.cell? ⟨w.heap.size, 0, none⟩ = some (.slice q xs.length d) ∧ Row w' q (itCells xs) ∧
      (∀ a, q = some a → w.heap.size ≤ a.block ∧ a.block < w'.heap.size) ∧ Below w.heap.size w w' := by
  go_enter Try.func31, Try.ntmps31
  go_wp2_with ((with_reducible show wpList _ _ _ (⟨some 4, _, _, _, _, _⟩ :: _) _ _); go_loud (refine wpList_app E22 rfl _ _ rfl w.heap.size (.slice none 0 0) 0 [] rfl (World.ownsRow_nil _ _ _ _) _ _ _ (itCells xs) rfl (by rw [itCells_len]; omega) hp (hrow.alloc _) (it_one xs) (by unfold maxLen; omega) (by omega) (by simp) ?_); intro v2 w2 ho2 hg2 hs2; rw [Nat.zero_add, List.nil_append] at ho2; obtain ⟨q, d, rfl, _, _, hr2, _, hge2⟩ := own_row ho2; have hblk : w2.heap[w.heap.size]? = some (.cells #[.slice p xs.length c] 22 (0, 0)) := ((hg2.block w.heap.size (by simp) (by simp [Value.ownBlock])).trans (heap_alloc_new w _)); have hc2 := cell_of_row w2 w.heap.size 0 _ _ _ hblk; have hf2 := frozen_of_row w2 w.heap.size 0 _ _ hblk; simp only [List.getElem?_toArray, List.getElem?_cons_zero] at hc2; have hlt2 : w.heap.size < w2.heap.size := (Array.getElem?_eq_some_iff.1 hblk).1)
  go_ret
  have hq : ∀ a, q = some a → w.heap.size + 1 ≤ a.block ∧ a.block < w2.heap.size := fun a ha => by
    subst ha
    refine ⟨?_, own_lt ho2 _ rfl⟩
    rcases hs2 a.block rfl with h | h
    · simp [Value.ownBlock] at h
    · simpa using h
  refine ⟨q, d, rfl, by simp; exact hlt2, World.cell?_setCell_same _ _ _ hc2, hr2.set_other _ _ (fun a ha => by have := hq a ha; simp; omega), fun a ha => by have := hq a ha; simp; omega, ?_⟩
  exact (((Below.refl _ _).alloc (Nat.le_refl _) _).grown hg2 (by simp) (by simp [Value.ownBlock])).setCell (p := ⟨w.heap.size, 0, none⟩) (Nat.le_refl _) _
end Go.Proofs.Ytkjiiikcillcfaa
