/-
  The walks of relax.Offsets and of the document's.
-/
import Derived.Test.YtkjiiikcillcfaaOff
import Derived.Test.YtkjiiikcillcfaaW2
import Derived.Test.YtkjiiikcillcfaaW5
namespace Go.Proofs.Ytkjiiikcillcfaa
open Go.RowKit

def offErr (xs : List It) (ls : List Bool) : Int := if checkP xs ≠ 0 then checkP xs else if ls.length ≠ xs.length then 1 else 0
def offRes (xs : List It) (ls : List Bool) : List Int := if offErr xs ls = 0 then offs xs ls else []

theorem offErr_ok {xs : List It} {ls : List Bool} (h : offErr xs ls = 0) : checkP xs = 0 ∧ ls.length = xs.length := by
  unfold offErr at h
  split at h
  · contradiction
  · rename_i h1
    split at h
    · contradiction
    · rename_i h2
      exact ⟨by simpa using h1, by simpa using h2⟩
theorem checkP_ok {xs : List It} (h : checkP xs = 0) : xs.length ≤ 65536 ∧ (∀ x ∈ xs, plainP x xs.length = true) ∧ total xs ≤ 67108864 := by
  unfold checkP at h
  split at h
  · contradiction
  · split at h
    · rename_i h1 h2
      split at h
      · contradiction
      · exact ⟨by omega, List.all_eq_true.1 h2, by omega⟩
    · contradiction
theorem offs_len (xs : List It) (ls : List Bool) : (offs xs ls).length = xs.length + 1 := by simp [offs]

def OffPost (xs : List It) (ls : List Bool) (w : World) (e : Ending) (w' : World) : Prop :=
  ∃ v, e = .returned (.tuple #[v, i64 (offErr xs ls)]) ∧ w'.ownsRow w.heap.size 2 1 v (offRes xs ls).length (i64s (offRes xs ls)) ∧ Below w.heap.size w w'

set_option maxHeartbeats 1000000 in
theorem Offsets_any (p : Option Addr) (c : Nat) (xs : List It) (q : Option Addr) (d : Nat) (ls : List Bool) (w : World) (hm : xs.length ≤ 1000000) (_ : ls.length ≤ 1000000)
    (hrow : Row w p (itCells xs)) (hrow2 : Row w q (bools ls)) :
    Calls Try.prog 16 #[.slice p xs.length c, .slice q ls.length d] w (OffPost xs ls w) := by
  by_cases hc : checkP xs = 0
  · obtain ⟨h1, h2, h3⟩ := checkP_ok hc
    by_cases hl : ls.length = xs.length
    · have HE : Hid (offErr xs ls = 0) := by simp [Hid, offErr, hc, hl]
      have HR : Hid (offRes xs ls = offs xs ls) := by simp [Hid, offRes, HE.out]
      have HC : Hid (∀ w1, Below w.heap.size w w1 → Calls Try.prog 32 #[.slice p xs.length c, .slice q xs.length d] w1 fun e w' => ∃ v, e = .returned v ∧ w'.ownsRow w1.heap.size 2 1 v (xs.length + 1) (i64s (offs xs ls)) ∧ Below w1.heap.size w1 w') :=
        fun w1 hb => offsets_any p c xs q d ls w1 h1 hl h2 h3 (hrow.below hb) (hrow2.below hb)
      have HCK := hid hc
      clear h2 h3 hc
      rw [hl]
      have hll : (((xs.length : Nat) : Int) != (xs.length : Int)) = false := by simp
      clear hl
      go_enter Try.func16, Try.ntmps16
      go_wp2_with (first
        | (go_at_call 19; refine (check_any _ _ _ _ hm hrow).mono ?_; rw [HCK.out]; rintro e w1 ⟨rfl, hb1⟩)
        | (go_at_call 32; refine (HC.out _ hb1).mono ?_; rintro e w2 ⟨v, rfl, ho2, hb2⟩))
      go_ret2
      have hsz := hb1.size
      refine ⟨v, by rw [HE.out]; rfl, ?_, hb1.trans (hb2.mono hsz)⟩
      rw [HR.out, offs_len]
      obtain ⟨o1, o2⟩ := ho2
      refine ⟨o1, ?_⟩
      rcases o2 with o2 | ⟨g, cap, cur, e1, e2, e3⟩
      · exact .inl o2
      · exact .inr ⟨g, cap, cur, e1, by omega, e3⟩
    · have HE : Hid (offErr xs ls = 1) := by simp [Hid, offErr, hc, hl]
      have HR : Hid (offRes xs ls = []) := by simp [Hid, offRes, HE.out]
      have hne : ((ls.length : Int) != (xs.length : Int)) = true := by rw [bne_iff_ne]; omega
      have HCK := hid hc
      clear h2 h3 hl hc
      go_enter Try.func16, Try.ntmps16
      go_wp2_with (go_at_call 19; refine (check_any _ _ _ _ hm hrow).mono ?_; rw [HCK.out]; rintro e w1 ⟨rfl, hb1⟩)
      go_ret2
      exact ⟨.slice none 0 0, by rw [HE.out]; rfl, by rw [HR.out]; exact World.ownsRow_nil _ _ _ _, hb1⟩
  · have HE : Hid (offErr xs ls = checkP xs) := by simp [Hid, offErr, hc]
    have HR : Hid (offRes xs ls = []) := by simp [Hid, offRes, HE.out, hc]
    obtain ⟨E, hE⟩ : ∃ E, E = checkP xs := ⟨_, rfl⟩
    rw [← hE] at hc HE
    have HCK := hid hE
    have hne : (E != 0) = true := by simpa using hc
    clear hc hE
    go_enter Try.func16, Try.ntmps16
    go_wp2_with (go_at_call 19; refine (check_any _ _ _ _ hm hrow).mono ?_; rw [← HCK.out]; rintro e w1 ⟨rfl, hb1⟩)
    go_ret2
    exact ⟨.slice none 0 0, by rw [HE.out]; rfl, by rw [HR.out]; exact World.ownsRow_nil _ _ _ _, hb1⟩
end Go.Proofs.Ytkjiiikcillcfaa
