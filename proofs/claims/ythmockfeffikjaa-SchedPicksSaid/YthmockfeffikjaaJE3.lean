/-
  The walks of gate, the program's and the document's, and what they call.
  The walk of the document's gate.
  The walk of slices.Clone at slices of int.
-/
import Derived.Test.YthmockfeffikjaaJE2
namespace Go.Proofs.Ythmockfeffikjaa
open Go.RowKit

theorem isW_any (n : Int) (w : World) : Calls Try.prog 54 #[i64 n] w fun e w' => e = .returned (.bool (isW n)) ∧ w = w' := by
  by_cases h : 0 ≤ n
  · go_enter Try.func54, Try.ntmps54
    go_wp2
    go_ret
    exact ⟨ret_bool (by simp [isW, h]), rfl⟩
  · have h' : n < 0 := by omega
    have HD : Hid (isW n = false) := by simp [Hid, isW, h]
    clear h
    go_enter Try.func54, Try.ntmps54
    go_wp2
    go_ret
    exact ⟨ret_bool (by rw [HD.out]), rfl⟩
theorem risW_any (n : Int) (w : World) : Calls Try.prog 60 #[i64 n] w fun e w' => e = .returned (.bool (isW n)) ∧ w = w' := by
  by_cases h : 0 ≤ n
  · go_enter Try.func60, Try.ntmps60
    go_wp2
    go_ret
    exact ⟨ret_bool (by simp [isW, h]), rfl⟩
  · have h' : n < 0 := by omega
    have HD : Hid (isW n = false) := by simp [Hid, isW, h]
    clear h
    go_enter Try.func60, Try.ntmps60
    go_wp2
    go_ret
    exact ⟨ret_bool (by rw [HD.out]), rfl⟩

theorem cameN_no {l : List Int} {k : Nat} (hk : k < l.length) (h : (isW (l.getD k 0) && !(l.take k).contains (l.getD k 0)) = false) : cameN l l.length = false := by
  rw [cameN, List.all_eq_false]
  exact ⟨k, List.mem_range.2 hk, by simpa using h⟩

set_option maxHeartbeats 2000000 in
theorem gate_any (x : Ce) (p : Option Addr) (c : Nat) (w : World) (hsl : SlAt w p c x.came) (hm : x.came.length ≤ 17592186043904) :
    Calls Try.prog 55 #[x.val p c] w fun e w' => e = .returned (.bool (gateP x)) ∧ Below w.heap.size w w' := by
  obtain ⟨kind, n, owner, need, came, turns, there⟩ := x
  unfold Ce.val
  dsimp only at hsl hm ⊢
  have HS := hid hsl
  obtain ⟨hlc, hcm, hp, hrow⟩ := hsl
  unfold maxLen at hcm
  clear hp
  by_cases h0 : need < 1
  · have HF : Hid (gateP ⟨kind, n, owner, need, came, turns, there⟩ = false) := by simp [Hid, gateP, gateHead]; omega
    have e0 : decide (need < 1) = true := by rw [decide_eq_true_iff]; omega
    clear h0
    go_enter Try.func55, Try.ntmps55
    go_wp2
    go_ret
    exact ⟨ret_bool (by rw [HF.out]), (Below.refl _ _).alloc (Nat.le_refl _) _⟩
  · skip
    by_cases h1 : 64 < need
    · have HF : Hid (gateP ⟨kind, n, owner, need, came, turns, there⟩ = false) := by simp [Hid, gateP, gateHead]; omega
      have e0 : decide (need < 1) = false := by rw [decide_eq_false_iff_not]; omega
      have e1 : decide (64 < need) = true := by rw [decide_eq_true_iff]; omega
      clear h0 h1
      go_enter Try.func55, Try.ntmps55
      go_wp2
      go_ret
      exact ⟨ret_bool (by rw [HF.out]), (Below.refl _ _).alloc (Nat.le_refl _) _⟩
    · skip
      by_cases h2 : need ≤ (came.length : Int)
      · have HF : Hid (gateP ⟨kind, n, owner, need, came, turns, there⟩ = false) := by simp [Hid, gateP, gateHead]; omega
        have e0 : decide (need < 1) = false := by rw [decide_eq_false_iff_not]; omega
        have e1 : decide (64 < need) = false := by rw [decide_eq_false_iff_not]; omega
        have e2 : decide (need ≤ (came.length : Int)) = true := by rw [decide_eq_true_iff]; omega
        clear h0 h1 h2
        go_enter Try.func55, Try.ntmps55
        go_wp2
        go_ret
        exact ⟨ret_bool (by rw [HF.out]), (Below.refl _ _).alloc (Nat.le_refl _) _⟩
      · skip
        by_cases h3 : turns < 0
        · have HF : Hid (gateP ⟨kind, n, owner, need, came, turns, there⟩ = false) := by simp [Hid, gateP, gateHead]; omega
          have e0 : decide (need < 1) = false := by rw [decide_eq_false_iff_not]; omega
          have e1 : decide (64 < need) = false := by rw [decide_eq_false_iff_not]; omega
          have e2 : decide (need ≤ (came.length : Int)) = false := by rw [decide_eq_false_iff_not]; omega
          have e3 : decide (turns < 0) = true := by rw [decide_eq_true_iff]; omega
          clear h0 h1 h2 h3
          go_enter Try.func55, Try.ntmps55
          go_wp2
          go_ret
          exact ⟨ret_bool (by rw [HF.out]), (Below.refl _ _).alloc (Nat.le_refl _) _⟩
        · skip
          by_cases h4 : 1152921504606846976 < turns
          · have HF : Hid (gateP ⟨kind, n, owner, need, came, turns, there⟩ = false) := by simp [Hid, gateP, gateHead]; omega
            have e0 : decide (need < 1) = false := by rw [decide_eq_false_iff_not]; omega
            have e1 : decide (64 < need) = false := by rw [decide_eq_false_iff_not]; omega
            have e2 : decide (need ≤ (came.length : Int)) = false := by rw [decide_eq_false_iff_not]; omega
            have e3 : decide (turns < 0) = false := by rw [decide_eq_false_iff_not]; omega
            have e4 : decide (1152921504606846976 < turns) = true := by rw [decide_eq_true_iff]; omega
            clear h0 h1 h2 h3 h4
            go_enter Try.func55, Try.ntmps55
            go_wp2
            go_ret
            exact ⟨ret_bool (by rw [HF.out]), (Below.refl _ _).alloc (Nat.le_refl _) _⟩
          · skip
            have e0 : decide (need < 1) = false := by rw [decide_eq_false_iff_not]; omega
            have e1 : decide (64 < need) = false := by rw [decide_eq_false_iff_not]; omega
            have e2 : decide (need ≤ (came.length : Int)) = false := by rw [decide_eq_false_iff_not]; omega
            have e3 : decide (turns < 0) = false := by rw [decide_eq_false_iff_not]; omega
            have e4 : decide (1152921504606846976 < turns) = false := by rw [decide_eq_false_iff_not]; omega
            have HG : Hid (gateP ⟨kind, n, owner, need, came, turns, there⟩ = cameN came came.length) := by
              simp only [Hid, gateP, gateHead]
              rw [decide_eq_true (show 1 ≤ need by omega), decide_eq_true (show need ≤ 64 by omega), decide_eq_true (show (came.length : Int) < need by omega), decide_eq_true (show 0 ≤ turns by omega), decide_eq_true (show turns ≤ 1152921504606846976 by omega)]
              simp
            clear h0 h1 h2 h3 h4
            go_enter Try.func55, Try.ntmps55
            go_wp2
            go_loop [34] (fun i => ∃ k : Nat, k ≤ came.length ∧ i = .int .i64 k ∧ cameN came k = true) (fun i => came.length - (intOf i).toNat)
            case atStart => exact ⟨0, Nat.zero_le _, rfl, rfl⟩
            case round =>
              obtain ⟨k, hk, rfl, hcn⟩ := hrel
              have HCN := hid hcn
              clear hcn
              by_cases hlt : k < came.length
              · obtain ⟨b1, o1, rfl, hb1, hz1⟩ := hrow.at (by simp; omega)
                clear hz1
                have c1 := hrow.cell k (by simpa using hlt)
                simp only [i64s, List.getElem_map] at c1
                have HX : Hid (came.getD k 0 = came[k]) := by simp [Hid, hlt]
                have HNO := hid (fun h => cameN_no hlt h)
                have HYS := hid (cameN_succ came k)
                rw [HX.out] at HNO HYS
                obtain ⟨v, hv⟩ : ∃ v, v = came[k] := ⟨_, rfl⟩
                rw [← hv] at c1 HNO HYS
                clear hv HX
                have HCON := hid (fun w1 (hr : Row w1 (some ⟨b1, o1, none⟩) (i64s came)) =>
                  show Calls Try.prog 66 #[.slice (some ⟨b1, o1, none⟩) k c, i64 v] w1 fun e w' => e = .returned (.bool ((came.take k).contains v)) ∧ w1 = w' by
                    have := containsI_any (some ⟨b1, o1, none⟩) c (came.take k) v w1 (by unfold maxLen; simp; omega) (by have := hr.take k; rwa [← List.map_take] at this)
                    rwa [List.length_take, Nat.min_eq_left (by omega)] at this)
                have HIW := hid (isW_any v)
                have hrowA := hrow.alloc (.cells #[i64 kind, i64 n, i64 owner, i64 need, .slice (some ⟨b1, o1, none⟩) came.length c, i64 turns, .bool there] 30)
                cases hw : isW v with
                | false =>
                  rw [hw] at HIW HNO
                  have HNO := hid (HNO.out rfl)
                  clear HYS HCON hw
                  go_wp2_with (go_at_call 54; refine (HIW.out _).mono ?_; rintro e w1 ⟨rfl, rfl⟩)
                  go_ret
                  exact ⟨ret_bool (by rw [HG.out, HNO.out]), (Below.refl _ _).alloc (Nat.le_refl _) _⟩
                | true =>
                  cases hct : (came.take k).contains v with
                  | true =>
                    rw [hw, hct] at HNO
                    rw [hw] at HIW
                    rw [hct] at HCON
                    have HNO := hid (HNO.out rfl)
                    clear HYS hw hct
                    go_wp2_with (first
                      | (go_at_call 54; refine (HIW.out _).mono ?_; rintro e w1 ⟨rfl, rfl⟩)
                      | (go_at_call 66; refine (HCON.out _ hrowA).mono ?_; rintro e w1 ⟨rfl, rfl⟩))
                    go_ret
                    exact ⟨ret_bool (by rw [HG.out, HNO.out]), (Below.refl _ _).alloc (Nat.le_refl _) _⟩
                  | false =>
                    rw [hw, hct, HCN.out] at HYS
                    rw [hw] at HIW
                    rw [hct] at HCON
                    clear HNO hw hct
                    go_wp2_with (first
                      | (go_at_call 54; refine (HIW.out _).mono ?_; rintro e w1 ⟨rfl, rfl⟩)
                      | (go_at_call 66; refine (HCON.out _ hrowA).mono ?_; rintro e w1 ⟨rfl, rfl⟩))
                    go_round
                    case rel => exact ⟨k + 1, by omega, by go_num, HYS.out⟩
                    case measure => simp [intOf]; omega
              · have hkx : k = came.length := by omega
                subst hkx
                go_wp2
                go_ret
                exact ⟨ret_bool (by rw [HG.out, HCN.out]), (Below.refl _ _).alloc (Nat.le_refl _) _⟩

end Go.Proofs.Ythmockfeffikjaa
namespace Go.Proofs.Ythmockfeffikjaa
open Go.RowKit

theorem ce_blk0 {w w1 : World} (x : Ce) (p : Option Addr) (c : Nat) (hb : Below (w.heap.size + 1) (w.alloc (.cells #[i64 x.kind, i64 x.n, i64 x.owner, i64 x.need, .slice p x.came.length c, i64 x.turns, .bool x.there] 30)) w1) : CeFacts w1 w.heap.size x p c :=
  CeBlk.facts (w := w1) (b := w.heap.size) (x := x) (p := p) (c := c) ((hb.block _ (by simp)).trans (heap_alloc_new w _))

set_option maxHeartbeats 2000000 in
theorem rgate_any (x : Ce) (p : Option Addr) (c : Nat) (w : World) (hsl : SlAt w p c x.came) (hm : x.came.length ≤ 17592186043904) :
    Calls Try.prog 68 #[x.val p c] w fun e w' => e = .returned (.bool (gateP x)) ∧ Below w.heap.size w w' := by
  obtain ⟨kind, n, owner, need, came, turns, there⟩ := x
  unfold Ce.val
  dsimp only at hsl hm ⊢
  have HS := hid hsl
  obtain ⟨hlc, hcm, hp, hrow⟩ := hsl
  unfold maxLen at hcm
  clear hp
  by_cases h0 : need < 1
  · have HF : Hid (gateP ⟨kind, n, owner, need, came, turns, there⟩ = false) := by simp [Hid, gateP, gateHead]; omega
    have e0 : decide (need < 1) = true := by rw [decide_eq_true_iff]; omega
    clear h0
    go_enter Try.func68, Try.ntmps68
    go_wp2
    go_ret
    exact ⟨ret_bool (by rw [HF.out]), (Below.refl _ _).alloc (Nat.le_refl _) _⟩
  · skip
    by_cases h1 : 64 < need
    · have HF : Hid (gateP ⟨kind, n, owner, need, came, turns, there⟩ = false) := by simp [Hid, gateP, gateHead]; omega
      have e0 : decide (need < 1) = false := by rw [decide_eq_false_iff_not]; omega
      have e1 : decide (64 < need) = true := by rw [decide_eq_true_iff]; omega
      clear h0 h1
      go_enter Try.func68, Try.ntmps68
      go_wp2
      go_ret
      exact ⟨ret_bool (by rw [HF.out]), (Below.refl _ _).alloc (Nat.le_refl _) _⟩
    · skip
      by_cases h2 : need ≤ (came.length : Int)
      · have HF : Hid (gateP ⟨kind, n, owner, need, came, turns, there⟩ = false) := by simp [Hid, gateP, gateHead]; omega
        have e0 : decide (need < 1) = false := by rw [decide_eq_false_iff_not]; omega
        have e1 : decide (64 < need) = false := by rw [decide_eq_false_iff_not]; omega
        have e2 : decide (need ≤ (came.length : Int)) = true := by rw [decide_eq_true_iff]; omega
        clear h0 h1 h2
        go_enter Try.func68, Try.ntmps68
        go_wp2
        go_ret
        exact ⟨ret_bool (by rw [HF.out]), (Below.refl _ _).alloc (Nat.le_refl _) _⟩
      · skip
        by_cases h3 : turns < 0
        · have HF : Hid (gateP ⟨kind, n, owner, need, came, turns, there⟩ = false) := by simp [Hid, gateP, gateHead]; omega
          have e0 : decide (need < 1) = false := by rw [decide_eq_false_iff_not]; omega
          have e1 : decide (64 < need) = false := by rw [decide_eq_false_iff_not]; omega
          have e2 : decide (need ≤ (came.length : Int)) = false := by rw [decide_eq_false_iff_not]; omega
          have e3 : decide (turns < 0) = true := by rw [decide_eq_true_iff]; omega
          clear h0 h1 h2 h3
          go_enter Try.func68, Try.ntmps68
          go_wp2
          go_ret
          exact ⟨ret_bool (by rw [HF.out]), (Below.refl _ _).alloc (Nat.le_refl _) _⟩
        · skip
          by_cases h4 : 1152921504606846976 < turns
          · have HF : Hid (gateP ⟨kind, n, owner, need, came, turns, there⟩ = false) := by simp [Hid, gateP, gateHead]; omega
            have e0 : decide (need < 1) = false := by rw [decide_eq_false_iff_not]; omega
            have e1 : decide (64 < need) = false := by rw [decide_eq_false_iff_not]; omega
            have e2 : decide (need ≤ (came.length : Int)) = false := by rw [decide_eq_false_iff_not]; omega
            have e3 : decide (turns < 0) = false := by rw [decide_eq_false_iff_not]; omega
            have e4 : decide (1152921504606846976 < turns) = true := by rw [decide_eq_true_iff]; omega
            clear h0 h1 h2 h3 h4
            go_enter Try.func68, Try.ntmps68
            go_wp2
            go_ret
            exact ⟨ret_bool (by rw [HF.out]), (Below.refl _ _).alloc (Nat.le_refl _) _⟩
          · skip
            have e0 : decide (need < 1) = false := by rw [decide_eq_false_iff_not]; omega
            have e1 : decide (64 < need) = false := by rw [decide_eq_false_iff_not]; omega
            have e2 : decide (need ≤ (came.length : Int)) = false := by rw [decide_eq_false_iff_not]; omega
            have e3 : decide (turns < 0) = false := by rw [decide_eq_false_iff_not]; omega
            have e4 : decide (1152921504606846976 < turns) = false := by rw [decide_eq_false_iff_not]; omega
            have HG : Hid (gateP ⟨kind, n, owner, need, came, turns, there⟩ = cameN came came.length) := by
              simp only [Hid, gateP, gateHead]
              rw [decide_eq_true (show 1 ≤ need by omega), decide_eq_true (show need ≤ 64 by omega), decide_eq_true (show (came.length : Int) < need by omega), decide_eq_true (show 0 ≤ turns by omega), decide_eq_true (show turns ≤ 1152921504606846976 by omega)]
              simp
            clear h0 h1 h2 h3 h4
            go_enter Try.func68, Try.ntmps68
            go_wp2
            go_loopw [3] (fun i wr => ∃ k : Nat, k ≤ came.length ∧ i = .int .i64 k ∧ cameN came k = true ∧ Below (w.heap.size + 1) (w.alloc (.cells #[i64 kind, i64 n, i64 owner, i64 need, .slice p came.length c, i64 turns, .bool there] 30)) wr) (fun i _ => came.length - (intOf i).toNat)
            case atStart => exact ⟨0, Nat.zero_le _, rfl, rfl, Below.refl _ _⟩
            case round =>
              obtain ⟨k, hk, rfl, hcn, hb⟩ := hrel
              have HCN := hid hcn
              clear hcn
              obtain ⟨⟨k0, k1, k2, k3, k4, k5, k6⟩, kf, kl⟩ := ce_blk0 ⟨kind, n, owner, need, came, turns, there⟩ p c hb
              clear k0 k1 k2 k3 k5 k6 kf
              dsimp only at k4
              have hz := hb.size
              have hbw : Below w.heap.size w wr := ((Below.refl _ _).alloc (Nat.le_refl _) _).trans (hb.mono (by simp))
              by_cases hlt : k < came.length
              · obtain ⟨b1, o1, rfl, hb1, hz1⟩ := hrow.at (by simp; omega)
                clear hz1
                have c1 := (hrow.below hbw).cell k (by simpa using hlt)
                simp only [i64s, List.getElem_map] at c1
                have HX : Hid (came.getD k 0 = came[k]) := by simp [Hid, hlt]
                have HNO := hid (fun h => cameN_no hlt h)
                have HYS := hid (cameN_succ came k)
                rw [HX.out] at HNO HYS
                obtain ⟨v, hv⟩ : ∃ v, v = came[k] := ⟨_, rfl⟩
                rw [← hv] at c1 HNO HYS
                clear hv HX
                have HIW := hid (risW_any v)
                cases hw : isW v with
                | false =>
                  rw [hw] at HIW HNO
                  have HNO := hid (HNO.out rfl)
                  clear HYS hw
                  go_wp2_with (go_at_call 60; refine (HIW.out _).mono ?_; rintro e w1 ⟨rfl, rfl⟩)
                  go_ret
                  exact ⟨ret_bool (by rw [HG.out, HNO.out]), hbw⟩
                | true =>
                  rw [hw] at HIW HNO HYS
                  clear hw
                  obtain ⟨wo, rfl⟩ : ∃ wo : World, wo = wr := ⟨_, rfl⟩
                  go_wp2_with (go_at_call 60; refine (HIW.out _).mono ?_; rintro e w1 ⟨rfl, rfl⟩)
                  have C1 := hid c1
                  clear k4 c1
                  go_loopw [4] (fun i wr => ∃ j : Nat, j ≤ k ∧ i = .int .i64 j ∧ (came.take j).contains v = false ∧ Below (w.heap.size + 1) (w.alloc (.cells #[i64 kind, i64 n, i64 owner, i64 need, .slice (some ⟨b1, o1, none⟩) came.length c, i64 turns, .bool there] 30)) wr ∧ wr.cell? ⟨b1, o1 + k, none⟩ = some (i64 v)) (fun i _ => k - (intOf i).toNat)
                  case atStart => exact ⟨0, Nat.zero_le _, rfl, by simp, hb, C1.out⟩
                  case round =>
                    clear hb hbw hz kl
                    obtain ⟨j, hj, rfl, hcj, hb, c1⟩ := hrel
                    have HCJ := hid hcj
                    clear hcj
                    obtain ⟨⟨k0, k1, k2, k3, k4, k5, k6⟩, kf, kl⟩ := ce_blk0 ⟨kind, n, owner, need, came, turns, there⟩ (some ⟨b1, o1, none⟩) c hb
                    clear k0 k1 k2 k3 k5 k6 kf
                    dsimp only at k4
                    have hz := hb.size
                    have hbw : Below w.heap.size w wr := ((Below.refl _ _).alloc (Nat.le_refl _) _).trans (hb.mono (by simp))
                    by_cases hjk : j < k
                    · have hlj : j < came.length := by omega
                      have c2 := (hrow.below hbw).cell j (by simpa using hlj)
                      simp only [i64s, List.getElem_map] at c2
                      have HT : Hid (came.take (j + 1) = came.take j ++ [came[j]]) := take_succ came j hlj
                      have HM : Hid (came[j] ∈ came.take k) := by
                        rw [Hid, List.mem_take_iff_getElem]
                        exact ⟨j, by omega, rfl⟩
                      obtain ⟨u, hu⟩ : ∃ u, u = came[j] := ⟨_, rfl⟩
                      rw [← hu] at c2 HT HM
                      clear hu
                      by_cases huv : u = v
                      · have hbb : (u == v) = true := by simpa using huv
                        have HNO := hid (HNO.out (by rw [← huv, List.contains_iff_mem.2 HM.out]; rfl))
                        clear huv
                        go_wp2
                        go_region
                        go_wp2
                        go_ret
                        exact ⟨ret_bool (by rw [HG.out, HNO.out]), hbw.drew⟩
                      · have hbb : (u == v) = false := by simpa using huv
                        have HCN2 : Hid ((came.take (j + 1)).contains v = false) := by
                          have h1 := HCJ.out
                          rw [Hid, HT.out]
                          simp only [List.contains_eq_mem, List.mem_append, List.mem_singleton, decide_eq_false_iff_not] at h1 ⊢
                          rintro (h | h)
                          · exact h1 h
                          · exact huv h.symm
                        clear huv
                        go_wp2
                        go_region
                        go_wp2
                        go_roundw
                        case rel => exact ⟨j + 1, by omega, by go_num, HCN2.out, hb.drew, c1⟩
                        case measure => simp [intOf]; omega
                    · have hjx : j = k := by omega
                      subst hjx
                      have HYS : Hid (cameN came (j + 1) = true) := by rw [Hid, HYS.out, HCN.out, HCJ.out]; rfl
                      go_wp2
                      go_roundw
                      case rel => exact ⟨j + 1, by omega, by go_num, HYS.out, hb⟩
                      case measure => simp [intOf]; omega
              · have hkx : k = came.length := by omega
                subst hkx
                go_wp2
                go_ret
                exact ⟨ret_bool (by rw [HG.out, HCN.out]), hbw⟩
end Go.Proofs.Ythmockfeffikjaa
namespace Go.Proofs.Ythmockfeffikjaa
open Go.RowKit

theorem EI : Elem Try.prog 23 3 1 8 (.int .i64 0) := Elem.mk' Try.underlying23 (by kernel_rfl) rfl (by decide)
def CloneIPost (l : List Int) (w : World) (e : Ending) (w' : World) : Prop :=
  ∃ v, e = .returned v ∧ w'.ownsRow w.heap.size 3 1 v l.length (i64s l) ∧ Below w.heap.size w w'

set_option maxHeartbeats 1000000 in
theorem cloneI_any (p : Option Addr) (c : Nat) (l : List Int) (w : World) (hm : l.length ≤ 17592186043904) (hp : p = none → c = 0) (hrow : Row w p (i64s l)) :
    Calls Try.prog 57 #[.slice p l.length c] w (CloneIPost l w) := by
  cases p with
  | none =>
    have hc := hp rfl
    subst hc
    have h0 : l = [] := by
      apply Classical.byContradiction
      intro hne
      obtain ⟨b, o, e, _⟩ := hrow (by simpa using hne)
      cases e
    subst h0
    have hnil := fun (w : World) => Lib.run_eql_slice_nil (P := Try.prog) w 23 3 none 0 0 0 0 Try.underlying23
    go_enter Try.func57, Try.ntmps57
    go_wp2
    go_ret
    exact ⟨_, rfl, World.ownsRow_nil _ _ _ _, Below.refl _ _⟩
  | some a =>
    have hnil := fun (w : World) (n c : Nat) => Lib.run_eql_slice_nil (P := Try.prog) w 23 3 (some a) n c 0 0 Try.underlying23
    go_enter Try.func57, Try.ntmps57
    go_wp2_with ((with_reducible show wpList _ _ _ (⟨some 7, _, _, _, _, _⟩ :: _) _ _); go_loud (refine wpList_app EI rfl _ _ rfl w.heap.size _ 0 [] rfl (own_new w [] 3 w.heap.size 0 1 (Nat.le_refl _) rfl (by decide)) _ _ _ (i64s l) rfl (by simp) hp (hrow.alloc _) (ints_one l) (by unfold maxLen; omega) (by omega) (by simp) ?_); intro v2 w2 ho2 hg2 hs2; rw [Nat.zero_add, List.nil_append] at ho2)
    have hg2 : (w.alloc (.cells #[] 3)).grownBy w2 (some w.heap.size) := hg2
    go_ret
    exact ⟨v2, rfl, ho2, ((Below.refl _ _).alloc (Nat.le_refl _) _).grown hg2 (by simp) (by rintro k e; cases e; exact Nat.le_refl _)⟩
end Go.Proofs.Ythmockfeffikjaa
