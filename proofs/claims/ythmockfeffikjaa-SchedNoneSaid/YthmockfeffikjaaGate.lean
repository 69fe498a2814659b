/-
  The walks of gate, the program's and the document's, and what they call.
-/
import Derived.Test.YthmockfeffikjaaK
import Derived.Test.YthmockfeffikjaaSlContI
namespace Go.Proofs.Ythmockfeffikjaa
open Go.RowKit

theorem isW_any (n : Int) (w : World) : Calls Try.prog 54 #[i64 n] w fun e w' => e = .returned (.bool (isW n)) ∧ w = w' := by
  by_cases h : 0 ≤ n
  · go_enter Try.func54, Try.ntmps54
    go_wp2
    go_ret
    exact ⟨ret_bool (by simp [isW, h]), rfl⟩
  · have h' : n < 0 := by omega
    have HD : Hid (isW n = false) := by simp [Hid, isW, h]
    clear h
    go_enter Try.func54, Try.ntmps54
    go_wp2
    go_ret
    exact ⟨ret_bool (by rw [HD.out]), rfl⟩
theorem risW_any (n : Int) (w : World) : Calls Try.prog 60 #[i64 n] w fun e w' => e = .returned (.bool (isW n)) ∧ w = w' := by
  by_cases h : 0 ≤ n
  · go_enter Try.func60, Try.ntmps60
    go_wp2
    go_ret
    exact ⟨ret_bool (by simp [isW, h]), rfl⟩
  · have h' : n < 0 := by omega
    have HD : Hid (isW n = false) := by simp [Hid, isW, h]
    clear h
    go_enter Try.func60, Try.ntmps60
    go_wp2
    go_ret
    exact ⟨ret_bool (by rw [HD.out]), rfl⟩

theorem cameN_no {l : List Int} {k : Nat} (hk : k < l.length) (h : (isW (l.getD k 0) && !(l.take k).contains (l.getD k 0)) = false) : cameN l l.length = false := by
  rw [cameN, List.all_eq_false]
  exact ⟨k, List.mem_range.2 hk, by simpa using h⟩

set_option maxHeartbeats 2000000 in
theorem gate_any (x : Ce) (p : Option Addr) (c : Nat) (w : World) (hsl : SlAt w p c x.came) (hm : x.came.length ≤ 17592186043904) :
    Calls Try.prog 55 #[x.val p c] w fun e w' => e = .returned (.bool (gateP x)) ∧ Below w.heap.size w w' := by
  obtain ⟨kind, n, owner, need, came, turns, there⟩ := x
  unfold Ce.val
  dsimp only at hsl hm ⊢
  have HS := hid hsl
  obtain ⟨hlc, hcm, hp, hrow⟩ := hsl
  unfold maxLen at hcm
  clear hp
  by_cases h0 : need < 1
  · have HF : Hid (gateP ⟨kind, n, owner, need, came, turns, there⟩ = false) := by simp [Hid, gateP, gateHead]; omega
    have e0 : decide (need < 1) = true := by rw [decide_eq_true_iff]; omega
    clear h0
    go_enter Try.func55, Try.ntmps55
    go_wp2
    go_ret
    exact ⟨ret_bool (by rw [HF.out]), (Below.refl _ _).alloc (Nat.le_refl _) _⟩
  · skip
    by_cases h1 : 64 < need
    · have HF : Hid (gateP ⟨kind, n, owner, need, came, turns, there⟩ = false) := by simp [Hid, gateP, gateHead]; omega
      have e0 : decide (need < 1) = false := by rw [decide_eq_false_iff_not]; omega
      have e1 : decide (64 < need) = true := by rw [decide_eq_true_iff]; omega
      clear h0 h1
      go_enter Try.func55, Try.ntmps55
      go_wp2
      go_ret
      exact ⟨ret_bool (by rw [HF.out]), (Below.refl _ _).alloc (Nat.le_refl _) _⟩
    · skip
      by_cases h2 : need ≤ (came.length : Int)
      · have HF : Hid (gateP ⟨kind, n, owner, need, came, turns, there⟩ = false) := by simp [Hid, gateP, gateHead]; omega
        have e0 : decide (need < 1) = false := by rw [decide_eq_false_iff_not]; omega
        have e1 : decide (64 < need) = false := by rw [decide_eq_false_iff_not]; omega
        have e2 : decide (need ≤ (came.length : Int)) = true := by rw [decide_eq_true_iff]; omega
        clear h0 h1 h2
        go_enter Try.func55, Try.ntmps55
        go_wp2
        go_ret
        exact ⟨ret_bool (by rw [HF.out]), (Below.refl _ _).alloc (Nat.le_refl _) _⟩
      · skip
        by_cases h3 : turns < 0
        · have HF : Hid (gateP ⟨kind, n, owner, need, came, turns, there⟩ = false) := by simp [Hid, gateP, gateHead]; omega
          have e0 : decide (need < 1) = false := by rw [decide_eq_false_iff_not]; omega
          have e1 : decide (64 < need) = false := by rw [decide_eq_false_iff_not]; omega
          have e2 : decide (need ≤ (came.length : Int)) = false := by rw [decide_eq_false_iff_not]; omega
          have e3 : decide (turns < 0) = true := by rw [decide_eq_true_iff]; omega
          clear h0 h1 h2 h3
          go_enter Try.func55, Try.ntmps55
          go_wp2
          go_ret
          exact ⟨ret_bool (by rw [HF.out]), (Below.refl _ _).alloc (Nat.le_refl _) _⟩
        · skip
          by_cases h4 : 1152921504606846976 < turns
          · have HF : Hid (gateP ⟨kind, n, owner, need, came, turns, there⟩ = false) := by simp [Hid, gateP, gateHead]; omega
            have e0 : decide (need < 1) = false := by rw [decide_eq_false_iff_not]; omega
            have e1 : decide (64 < need) = false := by rw [decide_eq_false_iff_not]; omega
            have e2 : decide (need ≤ (came.length : Int)) = false := by rw [decide_eq_false_iff_not]; omega
            have e3 : decide (turns < 0) = false := by rw [decide_eq_false_iff_not]; omega
            have e4 : decide (1152921504606846976 < turns) = true := by rw [decide_eq_true_iff]; omega
            clear h0 h1 h2 h3 h4
            go_enter Try.func55, Try.ntmps55
            go_wp2
            go_ret
            exact ⟨ret_bool (by rw [HF.out]), (Below.refl _ _).alloc (Nat.le_refl _) _⟩
          · skip
            have e0 : decide (need < 1) = false := by rw [decide_eq_false_iff_not]; omega
            have e1 : decide (64 < need) = false := by rw [decide_eq_false_iff_not]; omega
            have e2 : decide (need ≤ (came.length : Int)) = false := by rw [decide_eq_false_iff_not]; omega
            have e3 : decide (turns < 0) = false := by rw [decide_eq_false_iff_not]; omega
            have e4 : decide (1152921504606846976 < turns) = false := by rw [decide_eq_false_iff_not]; omega
            have HG : Hid (gateP ⟨kind, n, owner, need, came, turns, there⟩ = cameN came came.length) := by
              simp only [Hid, gateP, gateHead]
              rw [decide_eq_true (show 1 ≤ need by omega), decide_eq_true (show need ≤ 64 by omega), decide_eq_true (show (came.length : Int) < need by omega), decide_eq_true (show 0 ≤ turns by omega), decide_eq_true (show turns ≤ 1152921504606846976 by omega)]
              simp
            clear h0 h1 h2 h3 h4
            go_enter Try.func55, Try.ntmps55
            go_wp2
            go_loop [34] (fun i => ∃ k : Nat, k ≤ came.length ∧ i = .int .i64 k ∧ cameN came k = true) (fun i => came.length - (intOf i).toNat)
            case atStart => exact ⟨0, Nat.zero_le _, rfl, rfl⟩
            case round =>
              obtain ⟨k, hk, rfl, hcn⟩ := hrel
              have HCN := hid hcn
              clear hcn
              by_cases hlt : k < came.length
              · obtain ⟨b1, o1, rfl, hb1, hz1⟩ := hrow.at (by simp; omega)
                clear hz1
                have c1 := hrow.cell k (by simpa using hlt)
                simp only [i64s, List.getElem_map] at c1
                have HX : Hid (came.getD k 0 = came[k]) := by simp [Hid, hlt]
                have HNO := hid (fun h => cameN_no hlt h)
                have HYS := hid (cameN_succ came k)
                rw [HX.out] at HNO HYS
                obtain ⟨v, hv⟩ : ∃ v, v = came[k] := ⟨_, rfl⟩
                rw [← hv] at c1 HNO HYS
                clear hv HX
                have HCON := hid (fun w1 (hr : Row w1 (some ⟨b1, o1, none⟩) (i64s came)) =>
                  show Calls Try.prog 66 #[.slice (some ⟨b1, o1, none⟩) k c, i64 v] w1 fun e w' => e = .returned (.bool ((came.take k).contains v)) ∧ w1 = w' by
                    have := containsI_any (some ⟨b1, o1, none⟩) c (came.take k) v w1 (by unfold maxLen; simp; omega) (by have := hr.take k; rwa [← List.map_take] at this)
                    rwa [List.length_take, Nat.min_eq_left (by omega)] at this)
                have HIW := hid (isW_any v)
                have hrowA := hrow.alloc (.cells #[i64 kind, i64 n, i64 owner, i64 need, .slice (some ⟨b1, o1, none⟩) came.length c, i64 turns, .bool there] 30)
                cases hw : isW v with
                | false =>
                  rw [hw] at HIW HNO
                  have HNO := hid (HNO.out rfl)
                  clear HYS HCON hw
                  go_wp2_with (go_at_call 54; refine (HIW.out _).mono ?_; rintro e w1 ⟨rfl, rfl⟩)
                  go_ret
                  exact ⟨ret_bool (by rw [HG.out, HNO.out]), (Below.refl _ _).alloc (Nat.le_refl _) _⟩
                | true =>
                  cases hct : (came.take k).contains v with
                  | true =>
                    rw [hw, hct] at HNO
                    rw [hw] at HIW
                    rw [hct] at HCON
                    have HNO := hid (HNO.out rfl)
                    clear HYS hw hct
                    go_wp2_with (first
                      | (go_at_call 54; refine (HIW.out _).mono ?_; rintro e w1 ⟨rfl, rfl⟩)
                      | (go_at_call 66; refine (HCON.out _ hrowA).mono ?_; rintro e w1 ⟨rfl, rfl⟩))
                    go_ret
                    exact ⟨ret_bool (by rw [HG.out, HNO.out]), (Below.refl _ _).alloc (Nat.le_refl _) _⟩
                  | false =>
                    rw [hw, hct, HCN.out] at HYS
                    rw [hw] at HIW
                    rw [hct] at HCON
                    clear HNO hw hct
                    go_wp2_with (first
                      | (go_at_call 54; refine (HIW.out _).mono ?_; rintro e w1 ⟨rfl, rfl⟩)
                      | (go_at_call 66; refine (HCON.out _ hrowA).mono ?_; rintro e w1 ⟨rfl, rfl⟩))
                    go_round
                    case rel => exact ⟨k + 1, by omega, by go_num, HYS.out⟩
                    case measure => simp [intOf]; omega
              · have hkx : k = came.length := by omega
                subst hkx
                go_wp2
                go_ret
                exact ⟨ret_bool (by rw [HG.out, HCN.out]), (Below.refl _ _).alloc (Nat.le_refl _) _⟩

end Go.Proofs.Ythmockfeffikjaa
