/-
  The walk of the law's own few, and rows of cells.
-/
import Derived.Test.YtfpgdaefdpjcmaaOne
import Derived.Test.YtfpgdaefdpjcmaaOpenR
namespace Go.Proofs.Ytfpgdaefdpjcmaa
open Go.RowKit

/-- A cell with where its slice lies. -/
structure CeR where
  x : Ce
  p : Option Addr
  c : Nat
def CeR.cells (y : CeR) : List Value := [i64 y.x.kind, i64 y.x.n, i64 y.x.owner, i64 y.x.need, .slice y.p y.x.came.length y.c, i64 y.x.turns, .bool y.x.there]
def ceRow (ys : List CeR) : List Value := ys.flatMap CeR.cells
theorem ceRow_len (ys : List CeR) : (ceRow ys).length = 7 * ys.length := flat_len _ 7 (fun _ => rfl) ys

/-- The seven cells of element k. -/
theorem ce_cells {w : World} {b o : Nat} {ys : List CeR} (h : Row w (some ⟨b, o, none⟩) (ceRow ys)) (k : Nat) (hk : k < ys.length) :
    w.cell? ⟨b, o + k * 7, none⟩ = some (i64 ys[k].x.kind) ∧ w.cell? ⟨b, o + k * 7 + 1, none⟩ = some (i64 ys[k].x.n) ∧ w.cell? ⟨b, o + k * 7 + 2, none⟩ = some (i64 ys[k].x.owner) ∧ w.cell? ⟨b, o + k * 7 + 3, none⟩ = some (i64 ys[k].x.need) ∧
    w.cell? ⟨b, o + k * 7 + 4, none⟩ = some (.slice ys[k].p ys[k].x.came.length ys[k].c) ∧ w.cell? ⟨b, o + k * 7 + 5, none⟩ = some (i64 ys[k].x.turns) ∧ w.cell? ⟨b, o + k * 7 + 6, none⟩ = some (.bool ys[k].x.there) := by
  have each : ∀ j (hj : j < 7), w.cell? ⟨b, o + (k * 7 + j), none⟩ = (CeR.cells ys[k])[j]? := fun j hj => by
    have hl := ceRow_len ys
    rw [show k * 7 + j = 7 * k + j from by omega]
    rw [h.cell (7 * k + j) (by omega), ← flat_get CeR.cells 7 (fun _ => rfl) ys k hk j hj]
    exact (List.getElem?_eq_getElem (by have : 7 * k + j < (ceRow ys).length := by omega
                                        exact this)).symm
  exact ⟨each 0 (by omega), each 1 (by omega), each 2 (by omega), each 3 (by omega), each 4 (by omega), each 5 (by omega), each 6 (by omega)⟩

/-- How many have come in the first k, each cell's counted to 1000 at most. -/
def sumC (ys : List CeR) : Nat → Nat
  | 0 => 0
  | k + 1 => sumC ys k + (match ys[k]? with | some y => Nat.min y.x.came.length 1000 | none => 0)
theorem sumC_succ (ys : List CeR) (k : Nat) (h : k < ys.length) : sumC ys (k + 1) = sumC ys k + Nat.min ys[k].x.came.length 1000 := by simp only [sumC, List.getElem?_eq_getElem h]
theorem sumC_le (ys : List CeR) : ∀ k, k ≤ ys.length → sumC ys k ≤ 1000 * k
  | 0, _ => by simp [sumC]
  | k + 1, h => by
    have h1 := sumC_le ys k (by omega)
    have h2 : Nat.min ys[k].x.came.length 1000 ≤ 1000 := Nat.min_le_right _ _
    rw [sumC_succ ys k (by omega)]
    omega
def fewP (ys : List CeR) : Bool := decide (ys.length ≤ 200) && decide (sumC ys (Nat.min ys.length 200) ≤ 1000)

set_option maxRecDepth 20000 in
set_option maxHeartbeats 2000000 in
theorem few_any (p : Option Addr) (c : Nat) (ys : List CeR) (w : World) (hc : ys.length ≤ c) (hm : c ≤ maxLen) (hrow : Row w p (ceRow ys)) :
    Calls Try.prog 12 #[.slice p ys.length c] w fun e w' => e = .returned (.bool (fewP ys)) ∧ Below w.heap.size w w' := by
  unfold maxLen at hm
  by_cases hl : ys.length ≤ 200
  · have HP : Hid (fewP ys = decide (sumC ys ys.length ≤ 1000)) := by
      rw [Hid, fewP, decide_eq_true hl, Bool.true_and, show Nat.min ys.length 200 = ys.length from Nat.min_eq_left hl]
    go_enter Try.func12, Try.ntmps12
    go_wp2
    go_loopw [3, 12] (fun n i wr => ∃ k : Nat, k ≤ ys.length ∧ i = .int .i64 k ∧ n = .int .i64 (sumC ys k) ∧ Below w.heap.size w wr) (fun _ i _ => ys.length - (intOf i).toNat)
    case atStart => exact ⟨0, Nat.zero_le _, rfl, rfl, Below.refl _ _⟩
    case round =>
      obtain ⟨k, hk, rfl, rfl, hb⟩ := hrel
      have hsz := hb.size
      by_cases hlt : k < ys.length
      · have hlt2 : k < ys.length := by omega
        have hsl := sumC_le ys k (by omega)
        have HSS := hid (sumC_succ ys k hlt2)
        obtain ⟨S, hS⟩ : ∃ S, S = sumC ys k := ⟨_, rfl⟩
        rw [← hS] at hsl HSS ⊢
        clear hS
        obtain ⟨b, off, rfl, hbs, hzz⟩ := hrow.at (by have := ceRow_len ys; omega)
        clear hzz
        obtain ⟨c0, c1, c2, c3, c4, c5, c6⟩ := ce_cells (hrow.below hb) k hlt2
        obtain ⟨y, hy⟩ : ∃ y, y = ys[k] := ⟨_, rfl⟩
        rw [← hy] at c0 c1 c2 c3 c4 c5 c6 HSS
        clear hy
        obtain ⟨L, hL⟩ : ∃ L, L = y.x.came.length := ⟨_, rfl⟩
        rw [← hL] at c4 HSS
        clear hL
        by_cases h1 : L ≤ 1000
        · have HS2 : Hid (sumC ys (k + 1) = S + L) := by rw [Hid, HSS.out]; congr 1; exact Nat.min_eq_left h1
          clear HSS
          go_wp2
          go_roundw
          case rel => exact ⟨k + 1, by omega, by go_num, by rw [HS2.out]; go_num, hb.alloc hsz _⟩
          case measure => simp [intOf]; omega
        · have h2 : 1000 ≤ L := by omega
          have HS2 : Hid (sumC ys (k + 1) = S + 1000) := by rw [Hid, HSS.out]; congr 1; exact Nat.min_eq_right h2
          clear HSS h1
          go_wp2
          go_roundw
          case rel => exact ⟨k + 1, by omega, by go_num, by rw [HS2.out]; go_num, hb.alloc hsz _⟩
          case measure => simp [intOf]; omega
      · have hkx : k = ys.length := by omega
        subst hkx
        obtain ⟨S, hS⟩ : ∃ S, S = sumC ys ys.length := ⟨_, rfl⟩
        rw [← hS] at HP ⊢
        clear hS
        go_wp2
        all_goals
          go_ret
          refine ⟨ret_bool ?_, hb⟩
          rw [HP.out]
          first
            | rfl
            | (rw [decide_eq_decide]; omega)
  · have HP : Hid (fewP ys = false) := by rw [Hid, fewP, decide_eq_false hl, Bool.false_and]
    have hl2 : 200 < ys.length := by omega
    go_enter Try.func12, Try.ntmps12
    go_wp2
    go_loopw [3, 12] (fun n i wr => ∃ k : Nat, k ≤ 200 ∧ i = .int .i64 k ∧ n = .int .i64 (sumC ys k) ∧ Below w.heap.size w wr) (fun _ i _ => 200 - (intOf i).toNat)
    case atStart => exact ⟨0, Nat.zero_le _, rfl, rfl, Below.refl _ _⟩
    case round =>
      obtain ⟨k, hk, rfl, rfl, hb⟩ := hrel
      have hsz := hb.size
      by_cases hlt : k < 200
      · have hlt2 : k < ys.length := by omega
        have hsl := sumC_le ys k (by omega)
        have HSS := hid (sumC_succ ys k hlt2)
        obtain ⟨S, hS⟩ : ∃ S, S = sumC ys k := ⟨_, rfl⟩
        rw [← hS] at hsl HSS ⊢
        clear hS
        obtain ⟨b, off, rfl, hbs, hzz⟩ := hrow.at (by have := ceRow_len ys; omega)
        clear hzz
        obtain ⟨c0, c1, c2, c3, c4, c5, c6⟩ := ce_cells (hrow.below hb) k hlt2
        obtain ⟨y, hy⟩ : ∃ y, y = ys[k] := ⟨_, rfl⟩
        rw [← hy] at c0 c1 c2 c3 c4 c5 c6 HSS
        clear hy
        obtain ⟨L, hL⟩ : ∃ L, L = y.x.came.length := ⟨_, rfl⟩
        rw [← hL] at c4 HSS
        clear hL
        by_cases h1 : L ≤ 1000
        · have HS2 : Hid (sumC ys (k + 1) = S + L) := by rw [Hid, HSS.out]; congr 1; exact Nat.min_eq_left h1
          clear HSS
          go_wp2
          go_roundw
          case rel => exact ⟨k + 1, by omega, by go_num, by rw [HS2.out]; go_num, hb.alloc hsz _⟩
          case measure => simp [intOf]; omega
        · have h2 : 1000 ≤ L := by omega
          have HS2 : Hid (sumC ys (k + 1) = S + 1000) := by rw [Hid, HSS.out]; congr 1; exact Nat.min_eq_right h2
          clear HSS h1
          go_wp2
          go_roundw
          case rel => exact ⟨k + 1, by omega, by go_num, by rw [HS2.out]; go_num, hb.alloc hsz _⟩
          case measure => simp [intOf]; omega
      · have hkx : k = 200 := by omega
        subst hkx
        go_wp2
        go_ret
        exact ⟨ret_bool (by rw [HP.out]), hb⟩
end Go.Proofs.Ytfpgdaefdpjcmaa
