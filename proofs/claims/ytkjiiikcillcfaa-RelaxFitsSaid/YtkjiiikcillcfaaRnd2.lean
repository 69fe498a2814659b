/-
  The walks of Round, the program's and the document's.
-/
import Derived.Test.YtkjiiikcillcfaaRnd
namespace Go.Proofs.Ytkjiiikcillcfaa
open Go.RowKit

def rdRes (xs : List It) (ls : List Bool) : List Bool := if offErr xs ls = 0 then roundP xs ls else []
def rdMore (xs : List It) (ls : List Bool) : Nat := if offErr xs ls = 0 then moreP xs ls else 0
def RdPost (xs : List It) (ls : List Bool) (w : World) (e : Ending) (w' : World) : Prop :=
  ∃ v, e = .returned (.tuple #[v, i64 (rdMore xs ls), i64 (offErr xs ls)]) ∧ w'.ownsRow w.heap.size 4 1 v (rdRes xs ls).length (bools (rdRes xs ls)) ∧ Below w.heap.size w w'

set_option maxHeartbeats 1000000 in
theorem Round_any (p : Option Addr) (c : Nat) (xs : List It) (q : Option Addr) (d : Nat) (ls : List Bool) (w : World) (hm : xs.length ≤ 1000000) (hm2 : ls.length ≤ 1000000)
    (hrow : Row w p (itCells xs)) (hrow2 : Row w q (bools ls)) :
    Calls Try.prog 24 #[.slice p xs.length c, .slice q ls.length d] w (RdPost xs ls w) := by
  have HO := Offsets_any p c xs q d ls w hm hm2 hrow hrow2
  obtain ⟨E, hEE⟩ : ∃ E, E = offErr xs ls := ⟨_, rfl⟩
  unfold OffPost at HO
  rw [← hEE] at HO
  by_cases hE : E = 0
  · subst hE
    have hck := (offErr_ok hEE.symm).1
    have hl := (offErr_ok hEE.symm).2
    have HR : Hid (rdRes xs ls = roundP xs ls) := by simp [Hid, rdRes, ← hEE]
    have HM : Hid (rdMore xs ls = moreP xs ls) := by simp [Hid, rdMore, ← hEE]
    have HEE := hid hEE
    have HRC : Hid (∀ w1, Below w.heap.size w w1 → Calls Try.prog 39 #[.slice p xs.length c, .slice q ls.length d] w1 (RndPost xs ls w1)) := fun w1 hb => by
      have := round_any p c xs q d ls w1 hck hl (hrow.below hb) (hrow2.below hb)
      rwa [← hl] at this ⊢
    clear hEE hck hl
    go_enter Try.func24, Try.ntmps24
    go_wp2_with (first
      | (go_at_call 16; refine HO.mono ?_; rintro e w1 ⟨v, rfl, ho1, hb1⟩)
      | (go_at_call 39; refine (HRC.out _ hb1).mono ?_; rintro e w2 ⟨v2, rfl, ho2, hb2⟩))
    go_ret3
    refine ⟨v2, by rw [HM.out, ← HEE.out]; rfl, ?_, hb1.trans (hb2.mono hb1.size)⟩
    rw [HR.out, roundP_len]
    exact own_lower ho2 hb1.size
  · have HR : Hid (rdRes xs ls = []) := by simp [Hid, rdRes, ← hEE, hE]
    have HM : Hid (rdMore xs ls = 0) := by simp [Hid, rdMore, ← hEE, hE]
    have HEE := hid hEE
    have hne : (E != 0) = true := by simpa using hE
    clear hE hEE
    go_enter Try.func24, Try.ntmps24
    go_wp2_with (go_at_call 16; refine HO.mono ?_; rintro e w1 ⟨v, rfl, ho1, hb1⟩)
    go_ret3
    exact ⟨.slice none 0 0, by rw [HM.out, ← HEE.out]; rfl, by rw [HR.out]; exact World.ownsRow_nil _ _ _ _, hb1⟩
end Go.Proofs.Ytkjiiikcillcfaa
