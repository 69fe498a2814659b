/-
  The walk of RelaxFits.
-/
import Derived.Test.YtkjiiikcillcfaaFlat
import Derived.Test.YtkjiiikcillcfaaLRounds
namespace Go.Proofs.Ytkjiiikcillcfaa
open Go.RowKit

def isBr (xs : List It) (k : Nat) : Bool := match xs[k]? with | some x => decide (x.kind = 3) | none => false
theorem every_eq (xs : List It) : (List.range xs.length).map (fun j => Value.bool (isBr xs j)) = bools (everyP xs) := by
  apply List.ext_getElem
  · simp [everyP]
  · intro i h1 h2
    simp only [List.length_map, List.length_range] at h1
    simp [everyP, isBr, h1]
theorem brN_isBr (xs : List It) (k : Nat) : brN xs (k + 1) = brN xs k + (if isBr xs k then 1 else 0) := by
  show ((List.range (k + 1)).filter (isBr xs)).length = ((List.range k).filter (isBr xs)).length + _
  simp only [List.range_succ, List.filter_append, List.length_append]
  cases h : isBr xs k
  · rw [List.filter_cons_of_neg (show ¬ isBr xs k = true by simp [h])]; simp
  · rw [List.filter_cons_of_pos (show isBr xs k = true from h)]; simp

/-- What was long ahead of round k. -/
def wasL (xs : List It) (k : Nat) : List Bool := if k = 0 then zeros xs else (roundsP xs).getD (k - 1) []
theorem was_len {xs : List It} (hc : checkP xs = 0) (k : Nat) (h : k ≤ (roundsP xs).length) : (wasL xs k).length = xs.length := by
  unfold wasL
  split
  · simp [zeros]
  · have hk : k - 1 < (roundsP xs).length := by omega
    rw [List.getD, List.getElem?_eq_getElem hk, Option.getD_some]
    exact rounds_lens xs _ (List.getElem_mem hk)
theorem was_all {xs : List It} (hc : checkP xs = 0) (k : Nat) (h : k < (roundsP xs).length) : allP (wasL xs k) (wasL xs (k + 1)) = true := by
  refine allP_sub (by rw [was_len hc k (by omega), was_len hc (k + 1) (by omega)]) ?_
  have hr : roundsP xs = runs xs (xs.length + 1) (zeros xs) := by simp only [roundsP, if_pos hc]
  have h' : k < (runs xs (xs.length + 1) (zeros xs)).length := by rw [← hr]; exact h
  have := (runs_chain (xs.length + 1) (zeros xs) (fair_zeros xs) k h').2
  have e1 : wasL xs (k + 1) = (runs xs (xs.length + 1) (zeros xs))[k] := by
    unfold wasL
    rw [if_neg (show k + 1 ≠ 0 by omega), hr, Nat.add_sub_cancel, List.getD, List.getElem?_eq_getElem h', Option.getD_some]
  rw [e1]
  unfold wasL
  by_cases h0 : k = 0
  · subst h0; simpa using this
  · rw [if_neg h0] at this ⊢
    rw [hr, List.getD, List.getElem?_eq_getElem (by omega), Option.getD_some]
    exact this
theorem was_last {xs : List It} (hc : checkP xs = 0) : wasL xs (roundsP xs).length = relaxRes xs := by
  obtain ⟨h1, _⟩ := rounds_pos hc
  unfold wasL relaxRes
  rw [if_neg (by omega), List.getLastD_eq_getLast?, List.getLast?_eq_getElem?, List.getD]
theorem allP_refl (l : List Bool) : allP l l = true := allP_sub rfl (SubL.refl l)

set_option maxHeartbeats 4000000 in
theorem fits_law (w : World) (p : Option Addr) (c : Nat) (xs : List It) (hp : p = none → c = 0) (hrow : Row w p (itCells xs)) :
    Calls Try.prog 6 #[.slice p xs.length c] w fun e w' => e = .returned (.bool true) ∧ Below w.heap.size w w' := by
  have HLV := hid (live_any w)
  rcases Classical.em (xs.length ≤ 300) with hx | hx
  · have HF : Hid (∀ w1, Calls Try.prog 9 #[.slice p xs.length c] w1 fun e w' => e = .returned (.bool true) ∧ w1 = w') := fun w1 => by
      have := few_any p c xs w1
      rw [decide_eq_true hx] at this
      exact this
    have hm1 : xs.length ≤ 1000000 := by omega
    have H10 := hid (fun w1 (hb : Below w.heap.size w w1) => refcheck_any p c xs w1 hm1 (hrow.below hb))
    rcases Classical.em (checkP xs = 0) with hck | hck
    · rw [hck] at H10
      have H13 := hid (fun w1 (hb : Below w.heap.size w w1) => Relax_any p c xs w1 hm1 hp (hrow.below hb))
      have H23 := hid (fun w1 (hb : Below w.heap.size w w1) => lrounds_any p c xs w1 hm1 hp (hrow.below hb))
      have H22 := hid (fun (q : Option Addr) (d : Nat) w1 (hb : Below w.heap.size w w1) (hr : Row w1 q (bools (relaxRes xs))) => Fits_any p c xs q d (relaxRes xs) w1 hm1 (by rw [(relax_fit hck).1.len]; omega) (hrow.below hb) hr)
      have H22E := hid (fun (q : Option Addr) (d : Nat) w1 (hb : Below w.heap.size w w1) (hr : Row w1 q (bools (everyP xs))) => Fits_any p c xs q d (everyP xs) w1 hm1 (by simp [everyP]; omega) (hrow.below hb) hr)
      rw [relax_fitsP hck] at H22
      rw [every_fits hck] at H22E
      have HEL : Hid ((everyP xs).length = xs.length) := by simp [Hid, everyP]
      rw [HEL.out] at H22E
      have HAL : Hid ((relaxRes xs).length = xs.length) := (relax_fit hck).1.len
      rw [HAL.out] at H22
      have HWL := hid (fun k h => was_len hck k h)
      have HWA := hid (fun k h => was_all hck k h)
      have HWZ : Hid (wasL xs 0 = zeros xs) := by simp [Hid, wasL]
      have HWS : Hid (∀ k, wasL xs (k + 1) = (roundsP xs).getD k []) := fun k => by simp [wasL]
      have HWE := hid (was_last hck)
      have HNB := hid (relaxN_br hck)
      have HRP := hid (rounds_pos hck)
      unfold RelaxPost at H13
      rw [hck, HAL.out] at H13
      obtain ⟨A, hA⟩ : ∃ A, A = relaxRes xs := ⟨_, rfl⟩
      rw [← hA] at H13 H22 HAL HWE
      obtain ⟨N, hN⟩ : ∃ N, N = relaxN xs := ⟨_, rfl⟩
      rw [← hN] at H13 HNB
      have H14 := hid (fun (p' q' : Option Addr) (c' d' : Nat) (l m : List Bool) w1 (h1 : Row w1 p' (bools l)) (h2 : Row w1 q' (bools m)) (h3 : l.length = xs.length) (h4 : m.length = xs.length) (h5 : allP l m = true) =>
        show Calls Try.prog 14 #[.slice p' xs.length c', .slice q' xs.length d'] w1 fun e w' => e = .returned (.bool true) ∧ w1 = w' by
          have := all_any p' q' c' d' l m w1 h1 h2 (by rw [h3]; omega) (by rw [h4]; omega)
          rw [h5, h3, h4] at this
          exact this)
      clear hA hN hck
      go_enter Try.func6, Try.ntmps6
      go_wp2_with (first
        | (go_at_call 8; refine HLV.out.mono ?_; rintro e w1 ⟨rfl, hb1⟩)
        | (go_at_call 9; refine (HF.out _).mono ?_; rintro e w2 ⟨rfl, rfl⟩)
        | (go_at_call 10; refine (H10.out _ hb1).mono ?_; rintro e w3 ⟨rfl, hb3⟩; have hbw3 := hb1.trans (hb3.mono hb1.size))
        | (go_at_call 13; refine (H13.out _ hbw3).mono ?_; rintro e w4 ⟨p4, c4, rfl, hr4, hb4⟩; have hbw4 := hbw3.trans (hb4.mono hbw3.size); have hsz4 := hbw4.size)
        | ((with_reducible show wpList _ _ _ (⟨some 31, _, _, _, _, _⟩ :: _) _ _); go_loud (refine wpList_mkfull E23 rfl _ _ rfl w4.heap.size _ _ _ _ xs.length rfl rfl rfl rfl (by omega) (by unfold maxLen; omega) (Nat.le_refl _) ?_); intro w5 ho5 hg5))
      have hb5 := hbw4.grown hg5 hsz4 (by simp)
      rw [made_one _ _ rfl, ← fill_zero (fun j => Value.bool (isBr xs j))] at ho5
      have hr5 := hr4.kept hg5 (fun a _ => by simp)
      have HR4 := hid hr4
      obtain ⟨g, hg⟩ : ∃ g, g = w4.heap.size := ⟨_, rfl⟩
      have hgw : w4.heap.size ≤ g := by omega
      rw [← hg] at ho5 ⊢
      clear hg hg5 hbw4 hr4 hb4
      go_loopw [6, 34] (fun m i wr => ∃ k : Nat, k ≤ xs.length ∧ i = .int .i64 k ∧ m = .int .i64 (brN xs k) ∧ wr.ownsRow g 4 1 (.slice (some ⟨g, 0, none⟩) xs.length xs.length) xs.length (fillTo (fun j => Value.bool (isBr xs j)) (Value.bool false) xs.length k) ∧ Row wr p4 (bools A) ∧ Below w.heap.size w wr) (fun _ i _ => xs.length - (intOf i).toNat)
      case atStart => exact ⟨0, Nat.zero_le _, rfl, by simp [brN], ho5, hr5, hb5⟩
      case round =>
        clear hb5 hr5 ho5
        obtain ⟨k, hk, rfl, rfl, ho, hr, hb⟩ := hrel
        have hsz := hb.size
        have hbl := brN_le xs k
        have HBS := hid (brN_isBr xs k)
        obtain ⟨M, hM⟩ : ∃ M, M = brN xs k := ⟨_, rfl⟩
        rw [← hM] at hbl HBS ⊢
        have HM := hid hM
        clear hM
        by_cases hlt : k < xs.length
        · obtain ⟨b, off, rfl, hbs, hzz⟩ := hrow.at (by have := itCells_len xs; omega)
          clear hzz
          obtain ⟨c0, c1, c2, c3, c4', c5, c6⟩ := item_cells (hrow.below hb) k hlt
          have hsx : xs[k]? = some xs[k] := List.getElem?_eq_getElem hlt
          have HIB : Hid (isBr xs k = (xs[k].kind == 3)) := by simp only [Hid, isBr, hsx]; rfl
          obtain ⟨x, hx⟩ : ∃ x, x = xs[k] := ⟨_, rfl⟩
          rw [← hx] at c0 c1 c2 c3 c4' c5 c6 HIB
          clear hx hsx
          have hgl : g < wr.heap.size := own_lt ho g rfl
          have HSET := hid (fun (W : World) (U : Bool) (hU : isBr xs k = U) (h : W.ownsRow g 4 1 (.slice (some ⟨g, 0, none⟩) xs.length xs.length) xs.length (fillTo (fun j => Value.bool (isBr xs j)) (Value.bool false) xs.length k)) =>
            show (W.setCell ⟨g, k, none⟩ (.bool U)).ownsRow g 4 1 (.slice (some ⟨g, 0, none⟩) xs.length xs.length) xs.length (fillTo (fun j => Value.bool (isBr xs j)) (Value.bool false) xs.length (k + 1)) by
              subst hU
              have := own_set h k (.bool (isBr xs k))
              rwa [fill_set (fun j => Value.bool (isBr xs j))] at this)
          have HGET := hid (fun (W : World) (h : W.ownsRow g 4 1 (.slice (some ⟨g, 0, none⟩) xs.length xs.length) xs.length (fillTo (fun j => Value.bool (isBr xs j)) (Value.bool false) xs.length k)) =>
            show W.cell? ⟨g, k, none⟩ = some (Value.bool false) ∧ W.frozen? ⟨g, k, none⟩ = false by
              have h1 := own_cell h k (by rw [fill_len]; exact hlt)
              rw [fill_get _ _ _ _ _ hlt, if_neg (Nat.lt_irrefl k)] at h1
              exact h1)
          obtain ⟨og, of⟩ := HGET.out _ ho
          cases h3 : (x.kind == 3) with
          | true =>
            have HMV : Hid (brN xs (k + 1) = M + 1) := by simp only [Hid]; rw [HBS.out, HIB.out, h3]; rfl
            have HO2 := hid ((HSET.out _ true (HIB.out.trans h3) ho).alloc (.cells #[i64 x.kind, i64 x.size, i64 x.al, i64 x.to, i64 x.add, i64 x.lo, i64 x.hi] 34))
            clear HIB
            go_wp2
            go_roundw
            case rel => exact ⟨k + 1, by omega, by go_num, by rw [HMV.out]; go_num, HO2.out, (hr.set_lt HR4.out ⟨g, k, none⟩ _ hgw).alloc _, (hb.setCell (p := ⟨g, k, none⟩) (by simp; omega) _).alloc (by simp; omega) _⟩
            case measure => simp [intOf]; omega
          | false =>
            have HMV : Hid (brN xs (k + 1) = M) := by simp only [Hid]; rw [HBS.out, HIB.out, h3]; rfl
            have HO2 := hid ((HSET.out _ false (HIB.out.trans h3) ho).alloc (.cells #[i64 x.kind, i64 x.size, i64 x.al, i64 x.to, i64 x.add, i64 x.lo, i64 x.hi] 34))
            clear HIB
            go_wp2
            go_roundw
            case rel => exact ⟨k + 1, by omega, by go_num, by rw [HMV.out], HO2.out, (hr.set_lt HR4.out ⟨g, k, none⟩ _ hgw).alloc _, (hb.setCell (p := ⟨g, k, none⟩) (by simp; omega) _).alloc (by simp; omega) _⟩
            case measure => simp [intOf]; omega
        · have hkx : k = xs.length := by omega
          subst hkx
          have hre : Row wr (some ⟨g, 0, none⟩) (bools (everyP xs)) := by
            rw [fill_full, every_eq] at ho
            obtain ⟨p', c', e, hr'⟩ := own_shape ho
            cases e
            exact hr'
          have hnb : N ≤ M := by have := HNB.out; have := HM.out; omega
          clear ho hbl HBS HM HNB
          go_wp2_with (first
            | ((with_reducible show wpList _ _ _ (⟨some 54, _, _, _, _, _⟩ :: _) _ _); go_loud (refine wpList_mkfull E23 rfl _ _ rfl wr.heap.size _ _ _ _ xs.length rfl rfl rfl rfl (by omega) (by unfold maxLen; omega) (Nat.le_refl _) ?_); intro w6 ho6 hg6; have hb6 := hb.grown hg6 hsz (by simp))
            | (go_at_call 23; refine (H23.out _ hb6).mono ?_; rintro e w7 ⟨v7, rfl, hl7, hb7⟩; obtain ⟨ys, p7, c7, rfl, e7, r7, a7⟩ := hl7.rows; have E7 := hid e7; clear e7))
          have hbw7 := hb6.trans (hb7.mono hb6.size)
          have hr7 := (hr.kept hg6 (fun a _ => by simp)).below hb7
          have hre7 := (hre.kept hg6 (fun a _ => by simp)).below hb7
          rw [made_one _ _ rfl] at ho6
          have hw7 : Row w7 (some ⟨wr.heap.size, 0, none⟩) (bools (wasL xs 0)) := by
            obtain ⟨p', c', e, hr'⟩ := own_shape ho6
            cases e
            have := hr'.below hb7
            rw [HWZ.out, zeros]
            simpa [bools] using this
          have HYL : Hid (ys.length = (roundsP xs).length) := by have := congrArg List.length E7.out; simp at this; exact this
          have hyl : ys.length ≤ 1000 := by have := HYL.out; have := HRP.out.2; omega
          clear hb6 hb7 hl7 ho6 hg6 hr hre
          go_loop [10, 58] (fun was i => ∃ (k : Nat) (q : Option Addr) (d : Nat), k ≤ ys.length ∧ i = .int .i64 k ∧ was = .slice q xs.length d ∧ Row w7 q (bools (wasL xs k))) (fun _ i => ys.length - (intOf i).toNat)
          case atStart => exact ⟨0, _, _, Nat.zero_le _, rfl, rfl, hw7⟩
          case round =>
            clear hw7
            obtain ⟨k, q, d, hk, rfl, rfl, hw⟩ := hrel
            by_cases hlt : k < ys.length
            · obtain ⟨b1, o1, rfl, hb1', hz1⟩ := r7.at (by simp; omega)
              clear hz1
              have c1 := r7.cell k (by simpa using hlt)
              simp only [List.getElem_map] at c1
              obtain ⟨p1, d1, e1, r1⟩ := a7 _ (List.getElem_mem hlt)
              have e2 : ys[k].2 = wasL xs (k + 1) := by
                rw [HWS.out k]
                have := congrArg (fun l => l[k]?) E7.out
                simp only [List.getElem?_map, List.getElem?_eq_getElem hlt, Option.map_some] at this
                rw [List.getD, ← this]; rfl
              have hl1 := HWL.out (k + 1) (by have := HYL.out; omega)
              have hl0 := HWL.out k (by have := HYL.out; omega)
              have ha := HWA.out k (by have := HYL.out; omega)
              rw [e1, e2, hl1] at c1
              rw [e2] at r1
              clear e1 e2
              have HC := hid (H14.out q p1 d d1 _ _ w7 hw r1 hl0 hl1 ha)
              clear hl1 hl0 ha
              go_wp2_with (go_at_call 14; refine HC.out.mono ?_; rintro e w8 ⟨rfl, rfl⟩)
              go_round
              case rel => exact ⟨k + 1, p1, d1, by omega, by go_num, rfl, r1⟩
              case measure => simp [intOf]; omega
            · have hkx : k = ys.length := by omega
              subst hkx
              rw [HYL.out, HWE.out] at hw
              go_wp2_with (first
                | (go_at_call 22; refine (H22E.out _ _ _ hbw8 hre8).mono ?_; rintro e w9 ⟨rfl, hb9⟩; have hbw9 := hbw8.trans (hb9.mono hbw8.size); have hr9 := hr8.below hb9; have hw9 := hw8.below hb9)
                | (go_at_call 22; refine (H22.out _ _ _ hbw7 hr7).mono ?_; rintro e w8 ⟨rfl, hb8⟩; have hbw8 := hbw7.trans (hb8.mono hbw7.size); have hr8 := hr7.below hb8; have hre8 := hre7.below hb8; have hw8 := hw.below hb8)
                | (go_at_call 14; refine (H14.out _ _ _ _ A A _ hr9 hw9b HAL.out HAL.out (allP_refl A)).mono ?_; rintro e wx ⟨rfl, rfl⟩)
                | (go_at_call 14; refine (H14.out _ _ _ _ A A _ hw9 hr9 HAL.out HAL.out (allP_refl A)).mono ?_; rintro e wx ⟨rfl, rfl⟩; have hw9b := hw9))
              go_ret
              exact ⟨ret_bool rfl, hbw9⟩
    · obtain ⟨E, hE⟩ : ∃ E, E = checkP xs := ⟨_, rfl⟩
      rw [← hE] at H10 hck
      have hne : (E != 0) = true := by simpa using hck
      clear hE hck hx
      go_enter Try.func6, Try.ntmps6
      go_wp2_with (first
        | (go_at_call 8; refine HLV.out.mono ?_; rintro e w1 ⟨rfl, hb1⟩)
        | (go_at_call 9; refine (HF.out _).mono ?_; rintro e w2 ⟨rfl, rfl⟩)
        | (go_at_call 10; refine (H10.out _ hb1).mono ?_; rintro e w3 ⟨rfl, hb3⟩; have hbw3 := hb1.trans (hb3.mono hb1.size)))
      go_ret
      exact ⟨ret_bool rfl, hbw3⟩
  · have HF : Hid (∀ w1, Calls Try.prog 9 #[.slice p xs.length c] w1 fun e w' => e = .returned (.bool false) ∧ w1 = w') := fun w1 => by
      have := few_any p c xs w1
      rw [decide_eq_false hx] at this
      exact this
    clear hx
    go_enter Try.func6, Try.ntmps6
    go_wp2_with (first
      | (go_at_call 8; refine HLV.out.mono ?_; rintro e w1 ⟨rfl, hb1⟩)
      | (go_at_call 9; refine (HF.out _).mono ?_; rintro e w2 ⟨rfl, rfl⟩))
    go_ret
    exact ⟨ret_bool rfl, hb1⟩

theorem fits_walk (w : World) (p : Option Addr) (c : Nat) (xs : List It) (_ : xs.length ≤ c) (_ : c ≤ maxLen) (hp : p = none → c = 0) (_ : ∀ x ∈ xs, x.ok) (hrow : Row w p (itCells xs)) :
    Calls Try.prog 6 #[.slice p xs.length c] w fun e w' => e = .returned (.bool true) ∧ Below w.heap.size w w' :=
  fits_law w p c xs hp hrow
end Go.Proofs.Ytkjiiikcillcfaa
