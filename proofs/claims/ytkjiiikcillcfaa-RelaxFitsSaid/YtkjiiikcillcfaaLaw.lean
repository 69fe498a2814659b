/-
  The walks of the laws' own functions: live, few, all.
-/
import Derived.Test.YtkjiiikcillcfaaEq
namespace Go.Proofs.Ytkjiiikcillcfaa
open Go.RowKit

def LV : List It := [⟨3, 0, 0, 2, 0, -8, 8⟩, ⟨1, 20, 0, 0, 0, 0, 0⟩]
theorem LV_check : checkP LV = 0 := by decide
theorem LV_res : relaxRes LV = [true, false] := by decide
theorem LV_n : relaxN LV = 1 := by decide
theorem LV_err : offErr LV [true, false] = 0 := by decide
theorem LV_off : offRes LV [true, false] = [0, 8, 28] := by decide

set_option maxHeartbeats 1000000 in
theorem few_any (p : Option Addr) (c : Nat) (xs : List It) (w : World) : Calls Try.prog 9 #[.slice p xs.length c] w fun e w' => e = .returned (.bool (decide (xs.length ≤ 300))) ∧ w = w' := by
  go_enter Try.func9, Try.ntmps9
  go_wp2
  go_ret
  refine ⟨ret_bool ?_, rfl⟩
  rw [decide_eq_decide]; omega

set_option maxHeartbeats 1000000 in
theorem live_any (w : World) : Calls Try.prog 8 #[] w fun e w' => e = .returned (.bool true) ∧ Below w.heap.size w w' := by
  have HR : Hid (∀ w1, Row w1 (some ⟨w.heap.size, 0, none⟩) (itCells LV) → Calls Try.prog 13 #[.slice (some ⟨w.heap.size, 0, none⟩) 2 2] w1 fun e w' => ∃ p c, e = .returned (.tuple #[.slice p 2 c, i64 1, i64 0]) ∧ Row w' p (bools [true, false]) ∧ Below w1.heap.size w1 w') := fun w1 hr => by
    have := Relax_any (some ⟨w.heap.size, 0, none⟩) 2 LV w1 (by decide) (by simp) hr
    unfold RelaxPost at this
    rw [LV_check, LV_res, LV_n] at this
    exact this
  have HO : Hid (∀ w1 q d, Row w1 (some ⟨w.heap.size, 0, none⟩) (itCells LV) → Row w1 q (bools [true, false]) → Calls Try.prog 16 #[.slice (some ⟨w.heap.size, 0, none⟩) 2 2, .slice q 2 d] w1 fun e w' => ∃ v, e = .returned (.tuple #[v, i64 0]) ∧ w'.ownsRow w1.heap.size 2 1 v 3 (i64s [0, 8, 28]) ∧ Below w1.heap.size w1 w') := fun w1 q d hr hr2 => by
    have := Offsets_any (some ⟨w.heap.size, 0, none⟩) 2 LV q d [true, false] w1 (by decide) (by decide) hr hr2
    unfold OffPost at this
    rw [LV_err, LV_off] at this
    exact this
  go_enter Try.func8, Try.ntmps8
  go_wp2_with (first
    | (go_at_call 13; refine (HR.out _ (row_new w (itCells LV) 34)).mono ?_; rintro e w1 ⟨p1, c1, rfl, hr1, hb1⟩; have hr0 := (row_new w (itCells LV) 34).below hb1; have hbw1 := ((Below.refl w.heap.size w).alloc (Nat.le_refl _) (.cells (itCells LV).toArray 34)).trans (hb1.mono (by simp)); have hsz1 := hbw1.size)
    | (go_at_call 16; refine (HO.out _ _ _ hr0 hr1).mono ?_; rintro e w2 ⟨v2, rfl, ho2, hb2⟩; obtain ⟨p2, c2, rfl, hr2⟩ := own_shape ho2; have hr12 := hr1.below hb2; have hsz2 := hb2.size; have hbw2 := hbw1.trans (hb2.mono hsz1))
    | (go_at_call 26; refine (eqBools_any _ _ _ _ [true, false] [true, false] _ (hr12.alloc _) (row_new w2 (bools [true, false]) 4) (by simp) (by simp)).mono ?_; rintro e w3 ⟨rfl, hb3⟩; have hr23 := (hr2.alloc (.cells (bools [true, false]).toArray 4)).below hb3; have hsz3 := hb3.size)
    | (go_at_call 18; refine (eqInts_any _ _ _ _ [0, 8, 28] [0, 8, 28] _ (hr23.alloc _) (row_new w3 (i64s [0, 8, 28]) 2) (by simp) (by simp)).mono ?_; rintro e w4 ⟨rfl, hb4⟩))
  go_ret
  refine ⟨ret_bool (by simp), ?_⟩
  have k3 : Below w.heap.size w w3 := (hbw2.alloc (by omega) _).trans (hb3.mono (by simp; omega))
  have hz3 := k3.size
  exact (k3.alloc hz3 _).trans (hb4.mono (by simp; omega))

/-- What is long in one is long in the other. -/
def allP (a b : List Bool) : Bool := decide (a.length = b.length) && (List.range a.length).all (fun k => !a.getD k false || b.getD k false)

set_option maxHeartbeats 1000000 in
theorem all_any (p q : Option Addr) (c d : Nat) (l m : List Bool) (w : World) (h1 : Row w p (bools l)) (h2 : Row w q (bools m)) (hl : l.length ≤ 1000000000) (hm : m.length ≤ 1000000000) :
    Calls Try.prog 14 #[.slice p l.length c, .slice q m.length d] w fun e w' => e = .returned (.bool (allP l m)) ∧ w = w' := by
  by_cases hlm : l.length = m.length
  · have HM := hid hlm
    rw [← hlm]
    clear hlm
    have hne : (((l.length : Nat) : Int) != (l.length : Int)) = false := by simp
    go_enter Try.func14, Try.ntmps14
    go_wp2
    go_loop [14] (fun i => ∃ k : Nat, k ≤ l.length ∧ i = .int .i64 k ∧ (∀ j, j < k → (!l.getD j false || m.getD j false) = true)) (fun i => l.length - (intOf i).toNat)
    case atStart => exact ⟨0, Nat.zero_le _, rfl, by simp⟩
    case round =>
      obtain ⟨k, hk, rfl, hall⟩ := hrel
      have HA := hid hall
      clear hall
      by_cases hlt : k < l.length
      · have hlt2 : k < m.length := by rw [← HM.out]; exact hlt
        obtain ⟨b1, o1, rfl, hb1, hz1⟩ := h1.at (by simp; omega)
        obtain ⟨b2, o2, rfl, hb2, hz2⟩ := h2.at (by simp; omega)
        clear hz1 hz2
        have c1 := h1.cell k (by simpa using hlt)
        have c2 := h2.cell k (by simpa using hlt2)
        simp only [bools, List.getElem_map] at c1 c2
        have HL : Hid (l.getD k false = l[k]) := by simp [Hid, List.getD, hlt]
        have HR : Hid (m.getD k false = m[k]) := by simp [Hid, List.getD, hlt2]
        obtain ⟨x, hx⟩ : ∃ x, x = l[k] := ⟨_, rfl⟩
        obtain ⟨y, hy⟩ : ∃ y, y = m[k] := ⟨_, rfl⟩
        rw [← hx] at c1 HL
        rw [← hy] at c2 HR
        clear hx hy hlt2
        have HF : Hid ((x && !y) = true → allP l m = false) := fun h => by
          have h3 : ((List.range l.length).all fun k => !l.getD k false || m.getD k false) = false := by
            rw [List.all_eq_false]
            refine ⟨k, List.mem_range.2 hlt, ?_⟩
            rw [HL.out, HR.out]
            cases x <;> cases y <;> simp_all
          simp only [allP, h3, Bool.and_false]
        have HS : Hid ((x && !y) = false → ∀ j, j < k + 1 → (!l.getD j false || m.getD j false) = true) := fun h j hj => by
          by_cases hjk : j = k
          · subst hjk
            rw [HL.out, HR.out]
            cases x <;> cases y <;> simp_all
          · exact HA.out j (by omega)
        cases x
        · have HS := hid (HS.out rfl)
          go_wp2
          go_round
          case rel => exact ⟨k + 1, by omega, by go_num, HS.out⟩
          case measure => simp [intOf]; omega
        · cases y
          · have HF := hid (HF.out rfl)
            go_wp2
            go_ret
            exact ⟨ret_bool (by rw [HF.out]), rfl⟩
          · have HS := hid (HS.out rfl)
            go_wp2
            go_round
            case rel => exact ⟨k + 1, by omega, by go_num, HS.out⟩
            case measure => simp [intOf]; omega
      · have hkx : k = l.length := by omega
        have HE : Hid (allP l m = true) := by
          simp only [Hid, allP]
          rw [decide_eq_true HM.out, Bool.true_and, List.all_eq_true]
          intro j hj
          exact HA.out j (by rw [hkx]; exact List.mem_range.1 hj)
        clear HA
        subst hkx
        go_wp2
        go_ret
        exact ⟨ret_bool (by rw [HE.out]), rfl⟩
  · have HE : Hid (allP l m = false) := by simp [Hid, allP, hlm]
    have hne : (((l.length : Nat) : Int) != (m.length : Int)) = true := by rw [bne_iff_ne]; omega
    clear hlm
    go_enter Try.func14, Try.ntmps14
    go_wp2
    go_ret
    exact ⟨ret_bool (by rw [HE.out]), rfl⟩
end Go.Proofs.Ytkjiiikcillcfaa
