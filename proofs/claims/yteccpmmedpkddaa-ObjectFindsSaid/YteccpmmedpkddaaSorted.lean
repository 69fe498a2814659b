/-
  slices.IsSortedFunc over symbols by their order.
-/
import Derived.Test.YteccpmmedpkddaaRSym
import Derived.Deep.RegionHeld3
namespace Go.Proofs.Yteccpmmedpkddaa
open Go.RowKit

/-- Symbol i does not stand behind its place. -/
def sortAt (l : List Sy) (i : Nat) : Bool := match l[i]?, l[i - 1]? with | some a, some b => !decide (orderP a b < 0) | _, _ => true
def sortP (l : List Sy) : Bool := (List.range l.length).all (fun i => i == 0 || sortAt l i)
theorem sortP_true {l : List Sy} (h : ∀ j, 0 < j → j < l.length → sortAt l j = true) : sortP l = true := by
  simp only [sortP, List.all_eq_true, List.mem_range, Bool.or_eq_true, beq_iff_eq]
  intro i hi
  rcases Nat.eq_zero_or_pos i with h0 | h0
  · exact .inl h0
  · exact .inr (h i h0 hi)
theorem sortP_false {l : List Sy} (j : Nat) (h0 : 0 < j) (hj : j < l.length) (h : sortAt l j = false) : sortP l = false := by
  rw [Bool.eq_false_iff]
  intro e
  simp only [sortP, List.all_eq_true, List.mem_range, Bool.or_eq_true, beq_iff_eq] at e
  rcases e j hj with h1 | h1
  · omega
  · rw [h] at h1; cases h1
theorem sortAt_eq {l : List Sy} (j : Nat) (hj : j < l.length) (h1 : j - 1 < l.length) : sortAt l j = !decide (orderP l[j] l[j - 1] < 0) := by
  unfold sortAt; rw [List.getElem?_eq_getElem hj, List.getElem?_eq_getElem h1]

set_option maxRecDepth 20000 in
set_option maxHeartbeats 2000000 in
theorem sorted_any (p : Option Addr) (c : Nat) (l : List Sy) (w : World) (hrow : Row w p (l.flatMap Sy.cells)) (hl : l.length ≤ 4398046510976) :
    Calls Try.prog 38 #[.slice p l.length c, .func (.func 39) #[] #[]] w fun e w' => e = .returned (.bool (sortP l)) ∧ Below w.heap.size w w' := by
  go_enter Try.func38, Try.ntmps38
  go_wp2
  go_loopw [5] (fun i wr => ∃ z : Int, -1 ≤ z ∧ z < l.length ∧ i = .int .i64 z ∧ (∀ j : Nat, 0 < j → z < j → j < l.length → sortAt l j = true) ∧ Below w.heap.size w wr) (fun i _ => (intOf i + 1).toNat)
  case atStart => exact ⟨(l.length : Int) - 1, by omega, by omega, rfl, fun j _ h1 h2 => by omega, Below.refl _ _⟩
  case round =>
    obtain ⟨z, hz1, hz2, rfl, hok, hb⟩ := hrel
    have HOK := hid hok
    clear hok
    by_cases hlt : 0 < z
    · obtain ⟨b, off, rfl, hbs, hzz⟩ := hrow.at (by have := flat_len Sy.cells 4 (fun _ => rfl) l; omega)
      clear hzz
      obtain ⟨k, hk⟩ : ∃ k : Nat, k = z.toNat := ⟨_, rfl⟩
      obtain ⟨m, hm⟩ : ∃ m : Nat, m = z.toNat - 1 := ⟨_, rfl⟩
      have hzk : z = k := by omega
      subst hzk
      have hkl : k < l.length := by omega
      have hml : m < l.length := by omega
      have hmk : m = k - 1 := by omega
      have hmx : IntKind.i64.wrap ((k : Int) - 1) = (m : Int) := by rw [IntWalk.i64_in _ (by omega)]; omega
      have hmn : ((m : Nat) : Int).toNat = m := by omega
      have hkn : ((k : Nat) : Int).toNat = k := by omega
      have HS : Hid (sortAt l k = !decide (orderP l[k] l[m] < 0)) := by subst hmk; exact sortAt_eq k hkl hml
      have HSF := hid (sortP_false k (by omega) hkl)
      have a0 : ∀ w', Below wr.heap.size wr w' → _ := fun w' hw => (sy_cells (hrow.below (below_more hw hb (Nat.le_refl _))) k hkl).1
      have a1 : ∀ w', Below wr.heap.size wr w' → _ := fun w' hw => (sy_cells (hrow.below (below_more hw hb (Nat.le_refl _))) k hkl).2.1
      have a2 : ∀ w', Below wr.heap.size wr w' → _ := fun w' hw => (sy_cells (hrow.below (below_more hw hb (Nat.le_refl _))) k hkl).2.2.1
      have a3 : ∀ w', Below wr.heap.size wr w' → _ := fun w' hw => (sy_cells (hrow.below (below_more hw hb (Nat.le_refl _))) k hkl).2.2.2
      have b0 : ∀ w', Below wr.heap.size wr w' → _ := fun w' hw => (sy_cells (hrow.below (below_more hw hb (Nat.le_refl _))) m hml).1
      have b1 : ∀ w', Below wr.heap.size wr w' → _ := fun w' hw => (sy_cells (hrow.below (below_more hw hb (Nat.le_refl _))) m hml).2.1
      have b2 : ∀ w', Below wr.heap.size wr w' → _ := fun w' hw => (sy_cells (hrow.below (below_more hw hb (Nat.le_refl _))) m hml).2.2.1
      have b3 : ∀ w', Below wr.heap.size wr w' → _ := fun w' hw => (sy_cells (hrow.below (below_more hw hb (Nat.le_refl _))) m hml).2.2.2
      have HO := hid (fun w1 => order_any l[k] l[m] w1)
      generalize l[k] = x at a0 a1 a2 a3 HO HS
      generalize l[m] = y at b0 b1 b2 b3 HO HS
      obtain ⟨xn, xs, xv, xg⟩ := x
      obtain ⟨yn, ys, yv, yg⟩ := y
      unfold Sy.cells at HO
      dsimp only at a0 a1 a2 a3 b0 b1 b2 b3 HO
      generalize orderP _ _ = r at HO HS
      have HMK := hid hmk
      clear hk hm hmk
      go_upto_region 4 with (fail)
      go_cut [24] (fun v wx => v = .bool (decide (r < 0)) ∧ Below wr.heap.size wr wx)
      case first =>
        go_region_held3 (fun w' => Below wr.heap.size wr w') (first | exact (Below.refl _ _).drew | assumption) (first | (go_at_call 39; with_reducible refine (HO.out _).mono ?_; rintro e w' ⟨rfl, hbq⟩; have hq2 : Below wr.heap.size wr w' := below_more hbq (by assumption) (Nat.le_refl _); clear hbq))
        all_goals (go_wp2_with fail; go_meet)
        all_goals exact ⟨rfl, by assumption⟩
      case rest =>
        obtain ⟨rfl, hbc⟩ := hcut
        have hbw := below_more hbc hb (Nat.le_refl _)
        clear a0 a1 a2 a3 b0 b1 b2 b3
        by_cases hr : r < 0
        · have HR := hid hr
          go_wp2
          go_ret
          exact ⟨ret_bool (HSF.out (by rw [HS.out, decide_eq_true HR.out]; rfl)).symm, hbw⟩
        · have hr' : 0 ≤ r := by omega
          have HS2 : Hid (sortAt l k = true) := by rw [Hid, HS.out, decide_eq_false hr]; rfl
          clear hr hmx
          go_wp2
          go_roundw
          case rel => exact ⟨(k : Int) - 1, by omega, by omega, rfl, fun j h0 h1 h2 => by
            by_cases e : j = k
            · subst e; exact HS2.out
            · exact HOK.out j h0 (by omega) h2, hbw⟩
          case measure => simp [intOf] <;> omega
    · have HT : Hid (sortP l = true) := sortP_true (fun j h0 hj => HOK.out j h0 (by omega) hj)
      have hz0 : z ≤ 0 := by omega
      go_wp2
      go_ret
      exact ⟨ret_bool HT.out.symm, hb⟩
end Go.Proofs.Yteccpmmedpkddaa
