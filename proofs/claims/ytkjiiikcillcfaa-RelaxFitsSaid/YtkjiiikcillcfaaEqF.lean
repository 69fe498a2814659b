/-
  The walk of slices.EqualFunc at slices of slices of bools that hold the same.
-/
import Derived.Test.YtkjiiikcillcfaaRounds
namespace Go.Proofs.Ytkjiiikcillcfaa
open Go.RowKit

def RowB (w : World) (y : Value × List Bool) : Prop := ∃ p c, y.1 = .slice p y.2.length c ∧ Row w p (bools y.2)
theorem RowB.below {W w : World} {y : Value × List Bool} (h : RowB W y) (hb : Below W.heap.size W w) : RowB w y := by
  obtain ⟨p, c, e, hr⟩ := h
  exact ⟨p, c, e, hr.below hb⟩

set_option maxHeartbeats 1000000 in
theorem eqFunc_any (p q : Option Addr) (c d : Nat) (ys zs : List (Value × List Bool)) (w : World) (h1 : Row w p (ys.map (·.1))) (h2 : Row w q (zs.map (·.1))) (hy : ∀ y ∈ ys, RowB w y) (hz : ∀ z ∈ zs, RowB w z)
    (he : ys.map (·.2) = zs.map (·.2)) (hn : ys.length ≤ 1000000) (hm : ∀ y ∈ ys, y.2.length ≤ 1000000) :
    Calls Try.prog 28 #[.slice p ys.length c, .slice q zs.length d, .func (.func 26) #[] #[]] w fun e w' => e = .returned (.bool true) ∧ Below w.heap.size w w' := by
  have hlen : zs.length = ys.length := by have := congrArg List.length he; simpa using this.symm
  rw [hlen]
  have HL := hid hlen
  have HE := hid he
  have HY := hid hy
  have HZ := hid hz
  have HM := hid hm
  clear hlen he hy hz hm
  have hne : (((ys.length : Nat) : Int) != (ys.length : Int)) = false := by simp
  go_enter Try.func28, Try.ntmps28
  go_wp2
  go_loopw [17] (fun i wr => ∃ k : Nat, k ≤ ys.length ∧ i = .int .i64 k ∧ Below w.heap.size w wr) (fun i _ => ys.length - (intOf i).toNat)
  case atStart => exact ⟨0, Nat.zero_le _, rfl, Below.refl _ _⟩
  case round =>
    obtain ⟨k, hk, rfl, hb⟩ := hrel
    have hsz := hb.size
    by_cases hlt : k < ys.length
    · have hlt2 : k < zs.length := by rw [HL.out]; exact hlt
      obtain ⟨b1, o1, rfl, hb1, hz1⟩ := h1.at (by simp; omega)
      obtain ⟨b2, o2, rfl, hb2, hz2⟩ := h2.at (by simp; omega)
      clear hz1 hz2
      have c1 := h1.cell k (by simpa using hlt)
      have c2 := h2.cell k (by simpa using hlt2)
      simp only [List.getElem_map] at c1 c2
      obtain ⟨p1, d1, e1, r1⟩ := (HY.out _ (List.getElem_mem hlt)).below hb
      obtain ⟨p2, d2, e2, r2⟩ := (HZ.out _ (List.getElem_mem hlt2)).below hb
      have hm1 := HM.out _ (List.getElem_mem hlt)
      have e3 : ys[k].2 = zs[k].2 := by
        have := congrArg (fun l => l[k]?) HE.out
        simpa [hlt, hlt2] using this
      rw [e1] at c1
      rw [e2, ← e3] at c2
      rw [← e3] at r2
      have c1' := (hb.cell (p := ⟨b1, o1 + k, none⟩) hb1).trans c1
      have c2' := (hb.cell (p := ⟨b2, o2 + k, none⟩) hb2).trans c2
      clear c1 c2 e1 e2 e3
      obtain ⟨l, hl⟩ : ∃ l, l = ys[k].2 := ⟨_, rfl⟩
      rw [← hl] at c1' c2' r1 r2 hm1
      have HEQ := hid (eqBools_any p1 p2 d1 d2 l l wr r1 r2 (by omega) (by omega))
      simp only [decide_true] at HEQ
      clear hl r1 r2 hlt2
      go_wp2_with (go_at_call 26; refine HEQ.out.mono ?_; rintro e w1 ⟨rfl, hb1⟩)
      go_roundw
      case rel => exact ⟨k + 1, by omega, by go_num, hb.trans (hb1.mono hsz)⟩
      case measure => simp [intOf]; omega
    · have hkx : k = ys.length := by omega
      subst hkx
      go_wp2
      go_ret
      exact ⟨ret_bool rfl, hb⟩
end Go.Proofs.Ytkjiiikcillcfaa
