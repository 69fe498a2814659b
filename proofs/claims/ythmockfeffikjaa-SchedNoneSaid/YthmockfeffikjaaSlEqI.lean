/-
  The walk of slices.Equal at slices of int.
-/
import Derived.Test.YthmockfeffikjaaInts
namespace Go.Proofs.Ythmockfeffikjaa
open Go.RowKit

set_option maxHeartbeats 1000000 in
theorem eqI_any (p q : Option Addr) (c d : Nat) (l m : List Int) (w : World) (h1 : Row w p (i64s l)) (h2 : Row w q (i64s m)) (hl : l.length ≤ maxLen) (hm : m.length ≤ maxLen) :
    Calls Try.prog 67 #[.slice p l.length c, .slice q m.length d] w fun e w' => e = .returned (.bool (decide (l = m))) ∧ Below w.heap.size w w' := by
  unfold maxLen at hl hm
  by_cases hlm : l.length = m.length
  · have HM := hid hlm
    rw [← hlm]
    clear hlm
    have hne : (((l.length : Nat) : Int) != (l.length : Int)) = false := by simp
    go_enter Try.func67, Try.ntmps67
    go_wp2
    go_loopw [13] (fun i wr => ∃ k : Nat, k ≤ l.length ∧ i = .int .i64 k ∧ l.take k = m.take k ∧ Below w.heap.size w wr) (fun i _ => l.length - (intOf i).toNat)
    case atStart => exact ⟨0, Nat.zero_le _, rfl, by simp, Below.refl _ _⟩
    case round =>
      obtain ⟨k, hk, rfl, htk, hb⟩ := hrel
      have HT := hid htk
      clear htk
      have hsz := hb.size
      by_cases hlt : k < l.length
      · have hlt2 : k < m.length := by rw [← HM.out]; exact hlt
        obtain ⟨b1, o1, rfl, hb1, hz1⟩ := h1.at (by simp; omega)
        obtain ⟨b2, o2, rfl, hb2, hz2⟩ := h2.at (by simp; omega)
        clear hz1 hz2
        have c1 := (hb.cell (p := ⟨b1, o1 + k, none⟩) hb1).trans (h1.cell k (by simpa using hlt))
        have c2 := (hb.cell (p := ⟨b2, o2 + k, none⟩) hb2).trans (h2.cell k (by simpa using hlt2))
        simp only [i64s, List.getElem_map] at c1 c2
        have HA : Hid (l.take (k + 1) = l.take k ++ [l[k]]) := take_succ l k hlt
        have HB : Hid (m.take (k + 1) = m.take k ++ [m[k]]) := take_succ m k hlt2
        have HN : Hid (l[k] ≠ m[k] → decide (l = m) = false) := fun h => by
          rw [decide_eq_false_iff_not]
          intro e
          subst e
          exact h rfl
        obtain ⟨x, hx⟩ : ∃ x, x = l[k] := ⟨_, rfl⟩
        obtain ⟨y, hy⟩ : ∃ y, y = m[k] := ⟨_, rfl⟩
        rw [← hx] at c1 HA HN
        rw [← hy] at c2 HB HN
        clear hx hy hlt2
        by_cases hxy : x = y
        · subst hxy
          have hxx : (x != x) = false := by simp
          go_wp2
          go_region
          go_wp2
          go_roundw
          case rel => exact ⟨k + 1, by omega, by go_num, by rw [HA.out, HB.out, HT.out], hb.drew⟩
          case measure => simp [intOf]; omega
        · have hxx : (x != y) = true := by simpa using hxy
          have HN := hid (HN.out hxy)
          clear hxy
          go_wp2
          go_region
          go_wp2
          go_ret
          exact ⟨ret_bool (by rw [HN.out]), hb.drew⟩
      · have hkx : k = l.length := by omega
        have HE : Hid (decide (l = m) = true) := by
          have h := HT.out
          rw [hkx, List.take_length, HM.out, List.take_length] at h
          simpa [Hid] using h
        clear HT
        subst hkx
        go_wp2
        go_ret
        exact ⟨ret_bool (by rw [HE.out]), hb⟩
  · have HE : Hid (decide (l = m) = false) := by
      simp only [Hid, decide_eq_false_iff_not]
      intro e
      exact hlm (by rw [e])
    have hne : (((l.length : Nat) : Int) != (m.length : Int)) = true := by rw [bne_iff_ne]; omega
    clear hlm
    go_enter Try.func67, Try.ntmps67
    go_wp2
    go_ret
    exact ⟨ret_bool (by rw [HE.out]), Below.refl _ _⟩
end Go.Proofs.Ythmockfeffikjaa
