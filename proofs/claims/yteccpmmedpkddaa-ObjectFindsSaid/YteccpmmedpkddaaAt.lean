/-
  The last symbol ahead of a place: both walks.
-/
import Derived.Test.YteccpmmedpkddaaFindI
namespace Go.Proofs.Yteccpmmedpkddaa
open Go.RowKit

def valAt (l : List Sy) (j : Nat) : Int := match l[j]? with | some y => y.val | none => 0
open Classical in
/-- Is x better than what was best? -/
noncomputable def better (l : List Sy) (sec off : Int) (x : Sy) (k : Nat) (b : Option Nat) : Option Nat :=
  if x.sec = sec ∧ x.val ≤ off ∧ (∀ j, b = some j → valAt l j < x.val) then some k else b
/-- The best of the first k. -/
noncomputable def bestN (l : List Sy) (sec off : Int) : Nat → Option Nat
  | 0 => none
  | k + 1 => match l[k]? with | some x => better l sec off x k (bestN l sec off k) | none => bestN l sec off k
open Classical in
theorem bestN_succ (l : List Sy) (sec off : Int) (k : Nat) (h : k < l.length) : bestN l sec off (k + 1) = if l[k].sec = sec ∧ l[k].val ≤ off ∧ (∀ j, bestN l sec off k = some j → valAt l j < l[k].val) then some k else bestN l sec off k := by
  rw [bestN, List.getElem?_eq_getElem h]; rfl
theorem bestN_lt (l : List Sy) (sec off : Int) : ∀ k, k ≤ l.length → ∀ j, bestN l sec off k = some j → j < k
  | 0, _, j, h => by cases h
  | k + 1, hk, j, h => by
    rw [bestN_succ l sec off k (by omega)] at h
    split at h
    · cases h; omega
    · have := bestN_lt l sec off k (by omega) j h; omega

theorem nan_any (a : Int) (w : World) : Calls Try.prog 69 #[.int .i64 a] w fun e w' => e = .returned (.bool false) ∧ w = w' := by
  go_enter Try.func69, Try.ntmps69
  go_wp2
  go_ret
  exact ⟨ret_bool (by simp), rfl⟩
theorem less_any (a b : Int) (w : World) : Calls Try.prog 48 #[.int .i64 a, .int .i64 b] w fun e w' => e = .returned (.bool (decide (a < b))) ∧ w = w' := by
  go_enter Try.func48, Try.ntmps48
  go_wp2_with (go_at_call 69; refine (nan_any _ _).mono ?_; rintro e w' ⟨rfl, rfl⟩)
  go_ret
  exact ⟨rfl, rfl⟩

set_option maxRecDepth 20000 in
set_option maxHeartbeats 4000000 in
theorem at_any (o : Ob) (sec off : Int) (w : World) (ho : o.ok w) (hsec : inI64 sec) (hoff : inI64 off) :
    Calls Try.prog 20 #[.agg o.cells.toArray, .int .i64 sec, .int .i64 off] w fun e w' => e = .returned (idxV (bestN o.syms sec off o.syms.length)) ∧ Below w.heap.size w w' := by
  have hrow := ho.syms
  have hcap := ho.ycap
  obtain ⟨secs, sp, sc, syms, yp, yc⟩ := o
  dsimp only at hrow hcap ⊢
  clear ho
  obtain ⟨hc1, hc2, _⟩ := hcap
  have HL := hid (fun a b w => less_any a b w)
  show Calls Try.prog 20 #[.agg #[.slice sp secs.length sc, .slice yp syms.length yc], .int .i64 sec, .int .i64 off] w _
  go_enter Try.func20, Try.ntmps20
  go_wp2
  go_loopw [8, 14] (fun t i wr => ∃ k : Nat, k ≤ syms.length ∧ i = .int .i64 k ∧ t = .int .i64 (idxI (bestN syms sec off k)) ∧ Below w.heap.size w wr ∧ wr.heap[w.heap.size]? = some (.cells #[.slice sp secs.length sc, .slice yp syms.length yc] 25 (0, 0))) (fun _ i _ => syms.length - (intOf i).toNat)
  case atStart => exact ⟨0, Nat.zero_le _, rfl, rfl, (Below.refl _ _).alloc (Nat.le_refl _) _, heap_alloc_new w _⟩
  case round =>
    obtain ⟨k, hk, rfl, rfl, hb, hblk⟩ := hrel
    have hsz := hb.size
    have d1 := cell_of_row wr w.heap.size 1 _ _ _ hblk
    have dl := (Array.getElem?_eq_some_iff.1 hblk).1
    simp only [List.getElem?_toArray, List.getElem?_cons_zero, List.getElem?_cons_succ] at d1
    have HBK := hid hblk
    clear hblk
    by_cases hlt : k < syms.length
    · have HS := hid (bestN_succ syms sec off k hlt)
      have HLT := hid (bestN_lt syms sec off k (by omega))
      obtain ⟨b, of, rfl, hbs, hzz⟩ := hrow.at (by have := flat_len Sy.cells 4 (fun _ => rfl) syms; omega)
      clear hzz
      obtain ⟨c0, c1, c2, c3⟩ := sy_cells (hrow.below hb) k hlt
      have hbs2 : b < wr.heap.size := by omega
      obtain ⟨R, hR⟩ : ∃ R, R = bestN syms sec off k := ⟨_, rfl⟩
      rw [← hR] at HS HLT ⊢
      clear hR
      generalize syms[k] = x at c0 c1 c2 c3 HS
      obtain ⟨nm, xs, xv, xg⟩ := x
      dsimp only at c0 c1 c2 c3 HS
      by_cases h1 : xs = sec
      case neg =>
        have h1' : (xs == sec) = false := by simpa using h1
        have HS2 : Hid (bestN syms sec off (k + 1) = R) := by rw [Hid, HS.out, if_neg (fun h => h1 h.1)]
        clear h1
        go_wp2
        go_quiet ((go_at_call 48; exact quiet_sym (HL.out _ _ _)))
        go_wp2
        go_roundw
        case rel => exact ⟨k + 1, by omega, by go_num, by rw [HS2.out], below_drewN (hb.alloc hsz _) _, (Below.heap_alloc _ _ _ (by omega)).trans HBK.out⟩
        case measure => simp [intOf]; omega
      have h1' : (xs == sec) = true := by simpa using h1
      by_cases h2 : xv ≤ off
      case neg =>
        have h2' : off < xv := by omega
        have hd2 := decide_eq_false h2
        have HS2 : Hid (bestN syms sec off (k + 1) = R) := by rw [Hid, HS.out, if_neg (fun h => h2 h.2.1)]
        clear h1 h2
        go_wp2
        go_quiet ((go_at_call 48; exact quiet_sym (HL.out _ _ _)))
        go_wp2
        go_roundw
        case rel => exact ⟨k + 1, by omega, by go_num, by rw [HS2.out], below_drewN (hb.alloc hsz _) _, (Below.heap_alloc _ _ _ (by omega)).trans HBK.out⟩
        case measure => simp [intOf]; omega
      cases R with
      | none =>
        have HS2 : Hid (bestN syms sec off (k + 1) = some k) := by rw [Hid, HS.out, if_pos ⟨h1, h2, fun j e => by cases e⟩]
        unfold idxI
        clear h1
        go_wp2
        go_quiet ((go_at_call 48; exact quiet_sym (HL.out _ _ _)))
        go_wp2
        go_roundw
        case rel => exact ⟨k + 1, by omega, by go_num, by rw [HS2.out], below_drewN (hb.alloc hsz _) _, (Below.heap_alloc _ _ _ (by omega)).trans HBK.out⟩
        case measure => simp [intOf]; omega
      | some j =>
        have hjk : j < k := HLT.out j rfl
        have hjl : j < syms.length := by omega
        have p2 := (sy_cells (hrow.below hb) j hjl).2.2.1
        have HV : Hid (valAt syms j = (syms[j]).val) := by rw [Hid, valAt, List.getElem?_eq_getElem hjl]
        generalize syms[j] = y at p2 HV
        obtain ⟨yn, ys, yv, yg⟩ := y
        dsimp only at p2 HV
        unfold idxI
        dsimp only
        have hj0 : (0 : Int) ≤ j := by omega
        have hdj : decide ((j : Int) < 0) = false := decide_eq_false (by omega)
        by_cases h3 : yv < xv
        · have HS2 : Hid (bestN syms sec off (k + 1) = some k) := by rw [Hid, HS.out, if_pos ⟨h1, h2, fun j' e => by cases e; rw [HV.out]; exact h3⟩]
          have hd3 := decide_eq_true h3
          clear h1
          go_wp2
          go_quiet ((go_at_call 48; exact quiet_sym (HL.out _ _ _)))
          go_wp2
          go_roundw
          case rel => exact ⟨k + 1, by omega, by go_num, by rw [HS2.out], below_drewN (hb.alloc hsz _) _, (Below.heap_alloc _ _ _ (by omega)).trans HBK.out⟩
          case measure => simp [intOf]; omega
        · have HS2 : Hid (bestN syms sec off (k + 1) = some j) := by rw [Hid, HS.out, if_neg (fun h => h3 (by have := h.2.2 j rfl; rwa [HV.out] at this))]
          have hd3 := decide_eq_false h3
          have h3' : xv ≤ yv := by omega
          clear h1 h3
          go_wp2
          go_quiet ((go_at_call 48; exact quiet_sym (HL.out _ _ _)))
          go_wp2
          go_roundw
          case rel => exact ⟨k + 1, by omega, by go_num, by rw [HS2.out], below_drewN (hb.alloc hsz _) _, (Below.heap_alloc _ _ _ (by omega)).trans HBK.out⟩
          case measure => simp [intOf]; omega
    · obtain rfl : k = syms.length := by omega
      obtain ⟨R, hR⟩ : ∃ R, R = bestN syms sec off syms.length := ⟨_, rfl⟩
      rw [← hR]
      have HRE := hid hR
      clear hR
      have HPL := hid (fun w1 => place_any (idxI R) w1)
      have hr1 : max (idxI R) 0 = ((R.getD 0 : Nat) : Int) := by cases R <;> simp [idxI] <;> omega
      have hr2 : decide (0 ≤ idxI R) = R.isSome := by cases R <;> simp [idxI]
      rw [hr1, hr2] at HPL
      clear hr1 hr2
      generalize idxI R = q at HPL ⊢
      go_wp2_with (go_at_call 43; refine (HPL.out _).mono ?_; rintro e w2 ⟨rfl, rfl⟩)
      go_ret2
      exact ⟨by rw [← HRE.out]; rfl, hb⟩

set_option maxRecDepth 20000 in
set_option maxHeartbeats 4000000 in
theorem rat_any (o : Ob) (sec off : Int) (w : World) (ho : o.ok w) (hsec : inI64 sec) (hoff : inI64 off) :
    Calls Try.prog 21 #[.agg o.cells.toArray, .int .i64 sec, .int .i64 off] w fun e w' => e = .returned (idxV (bestN o.syms sec off o.syms.length)) ∧ Below w.heap.size w w' := by
  have hrow := ho.syms
  have hcap := ho.ycap
  obtain ⟨secs, sp, sc, syms, yp, yc⟩ := o
  dsimp only at hrow hcap ⊢
  clear ho
  obtain ⟨hc1, hc2, _⟩ := hcap
  have HL := hid (fun a b w => less_any a b w)
  show Calls Try.prog 21 #[.agg #[.slice sp secs.length sc, .slice yp syms.length yc], .int .i64 sec, .int .i64 off] w _
  go_enter Try.func21, Try.ntmps21
  go_wp2
  go_loopw [8, 9] (fun t i wr => ∃ k : Nat, k ≤ syms.length ∧ i = .int .i64 k ∧ t = .int .i64 (idxI (bestN syms sec off k)) ∧ Below w.heap.size w wr ∧ wr.heap[w.heap.size]? = some (.cells #[.slice sp secs.length sc, .slice yp syms.length yc] 25 (0, 0))) (fun _ i _ => syms.length - (intOf i).toNat)
  case atStart => exact ⟨0, Nat.zero_le _, rfl, rfl, (Below.refl _ _).alloc (Nat.le_refl _) _, heap_alloc_new w _⟩
  case round =>
    obtain ⟨k, hk, rfl, rfl, hb, hblk⟩ := hrel
    have hsz := hb.size
    have d1 := cell_of_row wr w.heap.size 1 _ _ _ hblk
    have dl := (Array.getElem?_eq_some_iff.1 hblk).1
    simp only [List.getElem?_toArray, List.getElem?_cons_zero, List.getElem?_cons_succ] at d1
    have HBK := hid hblk
    clear hblk
    by_cases hlt : k < syms.length
    · have HS := hid (bestN_succ syms sec off k hlt)
      have HLT := hid (bestN_lt syms sec off k (by omega))
      obtain ⟨b, of, rfl, hbs, hzz⟩ := hrow.at (by have := flat_len Sy.cells 4 (fun _ => rfl) syms; omega)
      clear hzz
      obtain ⟨c0, c1, c2, c3⟩ := sy_cells (hrow.below hb) k hlt
      have hbs2 : b < wr.heap.size := by omega
      obtain ⟨R, hR⟩ : ∃ R, R = bestN syms sec off k := ⟨_, rfl⟩
      rw [← hR] at HS HLT ⊢
      clear hR
      generalize syms[k] = x at c0 c1 c2 c3 HS
      obtain ⟨nm, xs, xv, xg⟩ := x
      dsimp only at c0 c1 c2 c3 HS
      by_cases h1 : xs = sec
      case neg =>
        have h1' : (xs == sec) = false := by simpa using h1
        have HS2 : Hid (bestN syms sec off (k + 1) = R) := by rw [Hid, HS.out, if_neg (fun h => h1 h.1)]
        clear h1
        go_wp2
        go_quiet (fail)
        go_wp2
        go_roundw
        case rel => exact ⟨k + 1, by omega, by go_num, by rw [HS2.out], below_drewN (hb.alloc hsz _) _, (Below.heap_alloc _ _ _ (by omega)).trans HBK.out⟩
        case measure => simp [intOf]; omega
      have h1' : (xs == sec) = true := by simpa using h1
      by_cases h2 : xv ≤ off
      case neg =>
        have h2' : off < xv := by omega
        have hd2 := decide_eq_false h2
        have HS2 : Hid (bestN syms sec off (k + 1) = R) := by rw [Hid, HS.out, if_neg (fun h => h2 h.2.1)]
        clear h1 h2
        go_wp2
        go_quiet (fail)
        go_wp2
        go_roundw
        case rel => exact ⟨k + 1, by omega, by go_num, by rw [HS2.out], below_drewN (hb.alloc hsz _) _, (Below.heap_alloc _ _ _ (by omega)).trans HBK.out⟩
        case measure => simp [intOf]; omega
      cases R with
      | none =>
        have HS2 : Hid (bestN syms sec off (k + 1) = some k) := by rw [Hid, HS.out, if_pos ⟨h1, h2, fun j e => by cases e⟩]
        unfold idxI
        clear h1
        go_wp2
        go_quiet (fail)
        go_wp2
        go_roundw
        case rel => exact ⟨k + 1, by omega, by go_num, by rw [HS2.out], below_drewN (hb.alloc hsz _) _, (Below.heap_alloc _ _ _ (by omega)).trans HBK.out⟩
        case measure => simp [intOf]; omega
      | some j =>
        have hjk : j < k := HLT.out j rfl
        have hjl : j < syms.length := by omega
        have p2 := (sy_cells (hrow.below hb) j hjl).2.2.1
        have HV : Hid (valAt syms j = (syms[j]).val) := by rw [Hid, valAt, List.getElem?_eq_getElem hjl]
        generalize syms[j] = y at p2 HV
        obtain ⟨yn, ys, yv, yg⟩ := y
        dsimp only at p2 HV
        unfold idxI
        dsimp only
        have hj0 : (0 : Int) ≤ j := by omega
        have hdj : decide ((j : Int) < 0) = false := decide_eq_false (by omega)
        by_cases h3 : yv < xv
        · have HS2 : Hid (bestN syms sec off (k + 1) = some k) := by rw [Hid, HS.out, if_pos ⟨h1, h2, fun j' e => by cases e; rw [HV.out]; exact h3⟩]
          have hd3 := decide_eq_true h3
          clear h1
          go_wp2
          go_quiet (fail)
          go_wp2
          go_roundw
          case rel => exact ⟨k + 1, by omega, by go_num, by rw [HS2.out], below_drewN (hb.alloc hsz _) _, (Below.heap_alloc _ _ _ (by omega)).trans HBK.out⟩
          case measure => simp [intOf]; omega
        · have HS2 : Hid (bestN syms sec off (k + 1) = some j) := by rw [Hid, HS.out, if_neg (fun h => h3 (by have := h.2.2 j rfl; rwa [HV.out] at this))]
          have hd3 := decide_eq_false h3
          have h3' : xv ≤ yv := by omega
          clear h1 h3
          go_wp2
          go_quiet (fail)
          go_wp2
          go_roundw
          case rel => exact ⟨k + 1, by omega, by go_num, by rw [HS2.out], below_drewN (hb.alloc hsz _) _, (Below.heap_alloc _ _ _ (by omega)).trans HBK.out⟩
          case measure => simp [intOf]; omega
    · obtain rfl : k = syms.length := by omega
      obtain ⟨R, hR⟩ : ∃ R, R = bestN syms sec off syms.length := ⟨_, rfl⟩
      rw [← hR]
      have HRE := hid hR
      clear hR
      cases R with
      | none =>
        unfold idxI
        go_wp2
        go_ret2
        exact ⟨by rw [← HRE.out]; rfl, hb⟩
      | some j =>
        unfold idxI
        go_wp2
        go_ret2
        exact ⟨by rw [← HRE.out]; rfl, hb⟩
end Go.Proofs.Yteccpmmedpkddaa
