/-
  The walk of the document's Relax.
-/
import Derived.Test.YtkjiiikcillcfaaRefR
namespace Go.Proofs.Ytkjiiikcillcfaa
open Go.RowKit

def relaxRes (xs : List It) : List Bool := (roundsP xs).getLastD []
def relaxN (xs : List It) : Nat := (roundsP xs).length - 1
def RelaxPost (xs : List It) (w : World) (e : Ending) (w' : World) : Prop :=
  ∃ p c, e = .returned (.tuple #[.slice p (relaxRes xs).length c, i64 (relaxN xs), i64 (checkP xs)]) ∧ Row w' p (bools (relaxRes xs)) ∧ Below w.heap.size w w'

theorem runs_len (xs : List It) : ∀ (f : Nat) (ls : List Bool), (runs xs f ls).length ≤ f
  | 0, _ => by simp [runs]
  | f + 1, ls => by
    have := runs_len xs f (roundP xs ls)
    simp only [runs, List.length_cons]
    split
    · simp
    · omega
theorem rounds_pos {xs : List It} (h : checkP xs = 0) : 0 < (roundsP xs).length ∧ (roundsP xs).length ≤ xs.length + 1 := by
  have := runs_len xs (xs.length + 1) (zeros xs)
  simp only [roundsP, if_pos h]
  refine ⟨by simp [runs], this⟩

set_option maxHeartbeats 1000000 in
theorem refRelax_any (p : Option Addr) (c : Nat) (xs : List It) (w : World) (hm : xs.length ≤ 1000000) (hrow : Row w p (itCells xs)) :
    Calls Try.prog 27 #[.slice p xs.length c] w (RelaxPost xs w) := by
  have HCK := hid (refcheck_any p c xs w hm hrow)
  rcases Classical.em (checkP xs = 0) with hck | hck
  · have HRS := hid (fun w1 (hb : Below w.heap.size w w1) => refRounds_any p c xs w1 hm (hrow.below hb))
    obtain ⟨hp1, hp2⟩ := rounds_pos hck
    rw [hck] at HCK
    have HN : Hid (relaxN xs = (roundsP xs).length - 1) := rfl
    have HR : Hid (relaxRes xs = (roundsP xs)[(roundsP xs).length - 1]) := by
      simp only [Hid, relaxRes]
      rw [List.getLastD_eq_getLast?, List.getLast?_eq_getElem?, List.getElem?_eq_getElem (by omega)]
      rfl
    have HCC := hid hck
    clear hck
    go_enter Try.func27, Try.ntmps27
    go_wp2_with (first
      | (go_at_call 10; refine HCK.out.mono ?_; rintro e w1 ⟨rfl, hb1⟩)
      | (go_at_call 29; refine (HRS.out _ hb1).mono ?_; rintro e w2 ⟨v, rfl, ⟨ys, hys, ho2, hya⟩, hb2⟩; have hyl : ys.length = (roundsP xs).length := (by rw [← hys]; simp); obtain ⟨g, vc, rfl, hg1, hg2, hg3, hg4⟩ := own_block ho2 (by omega); have hcl := (own_cell ho2 (ys.length - 1) (by simp; omega)).1; simp only [List.getElem_map] at hcl; obtain ⟨y, hy⟩ : ∃ y, y = ys[ys.length - 1]'(by omega) := ⟨_, rfl⟩; have hy2 : Hid (y.2 = relaxRes xs) := (by simp only [Hid]; rw [HR.out, hy]; simp only [← hys, List.getElem_map, List.length_map]); obtain ⟨rp, rc, hr1, hr2, _⟩ := hya y (by rw [hy]; exact List.getElem_mem _); rw [← hy, hr1, hyl] at hcl; rw [hyl]; clear hy hys))
    go_ret3
    refine ⟨rp, rc, ?_, by rw [← hy2.out]; exact hr2, hb1.trans (hb2.mono hb1.size)⟩
    show Ending.returned (.tuple #[.slice rp y.2.length rc, i64 (((roundsP xs).length : Int) - 1), i64 0]) = _
    rw [HN.out, HCC.out, hy2.out, show ((roundsP xs).length : Int) - 1 = (((roundsP xs).length - 1 : Nat) : Int) by omega]
  · have hR : roundsP xs = [] := by simp [roundsP, hck]
    have HN : Hid (relaxN xs = 0) := by simp [Hid, relaxN, hR]
    have HR : Hid (relaxRes xs = []) := by simp [Hid, relaxRes, hR]
    obtain ⟨E, hE⟩ : ∃ E, E = checkP xs := ⟨_, rfl⟩
    rw [← hE] at hck HCK
    have hne : (E != 0) = true := by simpa using hck
    have HE := hid hE
    clear hE hck hR
    go_enter Try.func27, Try.ntmps27
    go_wp2_with (go_at_call 10; refine HCK.out.mono ?_; rintro e w1 ⟨rfl, hb1⟩)
    go_ret3
    exact ⟨none, 0, by rw [HN.out, HR.out, ← HE.out]; rfl, by rw [HR.out]; exact Row.nil _ _, hb1⟩
end Go.Proofs.Ytkjiiikcillcfaa
