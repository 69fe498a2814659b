/-
  The walk of the document's gate.
-/
import Derived.Test.YthmockfeffikjaaGate
namespace Go.Proofs.Ythmockfeffikjaa
open Go.RowKit

theorem ce_blk0 {w w1 : World} (x : Ce) (p : Option Addr) (c : Nat) (hb : Below (w.heap.size + 1) (w.alloc (.cells #[i64 x.kind, i64 x.n, i64 x.owner, i64 x.need, .slice p x.came.length c, i64 x.turns, .bool x.there] 30)) w1) : CeFacts w1 w.heap.size x p c :=
  CeBlk.facts (w := w1) (b := w.heap.size) (x := x) (p := p) (c := c) ((hb.block _ (by simp)).trans (heap_alloc_new w _))

set_option maxHeartbeats 2000000 in
theorem rgate_any (x : Ce) (p : Option Addr) (c : Nat) (w : World) (hsl : SlAt w p c x.came) (hm : x.came.length ≤ 17592186043904) :
    Calls Try.prog 68 #[x.val p c] w fun e w' => e = .returned (.bool (gateP x)) ∧ Below w.heap.size w w' := by
  obtain ⟨kind, n, owner, need, came, turns, there⟩ := x
  unfold Ce.val
  dsimp only at hsl hm ⊢
  have HS := hid hsl
  obtain ⟨hlc, hcm, hp, hrow⟩ := hsl
  unfold maxLen at hcm
  clear hp
  by_cases h0 : need < 1
  · have HF : Hid (gateP ⟨kind, n, owner, need, came, turns, there⟩ = false) := by simp [Hid, gateP, gateHead]; omega
    have e0 : decide (need < 1) = true := by rw [decide_eq_true_iff]; omega
    clear h0
    go_enter Try.func68, Try.ntmps68
    go_wp2
    go_ret
    exact ⟨ret_bool (by rw [HF.out]), (Below.refl _ _).alloc (Nat.le_refl _) _⟩
  · skip
    by_cases h1 : 64 < need
    · have HF : Hid (gateP ⟨kind, n, owner, need, came, turns, there⟩ = false) := by simp [Hid, gateP, gateHead]; omega
      have e0 : decide (need < 1) = false := by rw [decide_eq_false_iff_not]; omega
      have e1 : decide (64 < need) = true := by rw [decide_eq_true_iff]; omega
      clear h0 h1
      go_enter Try.func68, Try.ntmps68
      go_wp2
      go_ret
      exact ⟨ret_bool (by rw [HF.out]), (Below.refl _ _).alloc (Nat.le_refl _) _⟩
    · skip
      by_cases h2 : need ≤ (came.length : Int)
      · have HF : Hid (gateP ⟨kind, n, owner, need, came, turns, there⟩ = false) := by simp [Hid, gateP, gateHead]; omega
        have e0 : decide (need < 1) = false := by rw [decide_eq_false_iff_not]; omega
        have e1 : decide (64 < need) = false := by rw [decide_eq_false_iff_not]; omega
        have e2 : decide (need ≤ (came.length : Int)) = true := by rw [decide_eq_true_iff]; omega
        clear h0 h1 h2
        go_enter Try.func68, Try.ntmps68
        go_wp2
        go_ret
        exact ⟨ret_bool (by rw [HF.out]), (Below.refl _ _).alloc (Nat.le_refl _) _⟩
      · skip
        by_cases h3 : turns < 0
        · have HF : Hid (gateP ⟨kind, n, owner, need, came, turns, there⟩ = false) := by simp [Hid, gateP, gateHead]; omega
          have e0 : decide (need < 1) = false := by rw [decide_eq_false_iff_not]; omega
          have e1 : decide (64 < need) = false := by rw [decide_eq_false_iff_not]; omega
          have e2 : decide (need ≤ (came.length : Int)) = false := by rw [decide_eq_false_iff_not]; omega
          have e3 : decide (turns < 0) = true := by rw [decide_eq_true_iff]; omega
          clear h0 h1 h2 h3
          go_enter Try.func68, Try.ntmps68
          go_wp2
          go_ret
          exact ⟨ret_bool (by rw [HF.out]), (Below.refl _ _).alloc (Nat.le_refl _) _⟩
        · skip
          by_cases h4 : 1152921504606846976 < turns
          · have HF : Hid (gateP ⟨kind, n, owner, need, came, turns, there⟩ = false) := by simp [Hid, gateP, gateHead]; omega
            have e0 : decide (need < 1) = false := by rw [decide_eq_false_iff_not]; omega
            have e1 : decide (64 < need) = false := by rw [decide_eq_false_iff_not]; omega
            have e2 : decide (need ≤ (came.length : Int)) = false := by rw [decide_eq_false_iff_not]; omega
            have e3 : decide (turns < 0) = false := by rw [decide_eq_false_iff_not]; omega
            have e4 : decide (1152921504606846976 < turns) = true := by rw [decide_eq_true_iff]; omega
            clear h0 h1 h2 h3 h4
            go_enter Try.func68, Try.ntmps68
            go_wp2
            go_ret
            exact ⟨ret_bool (by rw [HF.out]), (Below.refl _ _).alloc (Nat.le_refl _) _⟩
          · skip
            have e0 : decide (need < 1) = false := by rw [decide_eq_false_iff_not]; omega
            have e1 : decide (64 < need) = false := by rw [decide_eq_false_iff_not]; omega
            have e2 : decide (need ≤ (came.length : Int)) = false := by rw [decide_eq_false_iff_not]; omega
            have e3 : decide (turns < 0) = false := by rw [decide_eq_false_iff_not]; omega
            have e4 : decide (1152921504606846976 < turns) = false := by rw [decide_eq_false_iff_not]; omega
            have HG : Hid (gateP ⟨kind, n, owner, need, came, turns, there⟩ = cameN came came.length) := by
              simp only [Hid, gateP, gateHead]
              rw [decide_eq_true (show 1 ≤ need by omega), decide_eq_true (show need ≤ 64 by omega), decide_eq_true (show (came.length : Int) < need by omega), decide_eq_true (show 0 ≤ turns by omega), decide_eq_true (show turns ≤ 1152921504606846976 by omega)]
              simp
            clear h0 h1 h2 h3 h4
            go_enter Try.func68, Try.ntmps68
            go_wp2
            go_loopw [3] (fun i wr => ∃ k : Nat, k ≤ came.length ∧ i = .int .i64 k ∧ cameN came k = true ∧ Below (w.heap.size + 1) (w.alloc (.cells #[i64 kind, i64 n, i64 owner, i64 need, .slice p came.length c, i64 turns, .bool there] 30)) wr) (fun i _ => came.length - (intOf i).toNat)
            case atStart => exact ⟨0, Nat.zero_le _, rfl, rfl, Below.refl _ _⟩
            case round =>
              obtain ⟨k, hk, rfl, hcn, hb⟩ := hrel
              have HCN := hid hcn
              clear hcn
              obtain ⟨⟨k0, k1, k2, k3, k4, k5, k6⟩, kf, kl⟩ := ce_blk0 ⟨kind, n, owner, need, came, turns, there⟩ p c hb
              clear k0 k1 k2 k3 k5 k6 kf
              dsimp only at k4
              have hz := hb.size
              have hbw : Below w.heap.size w wr := ((Below.refl _ _).alloc (Nat.le_refl _) _).trans (hb.mono (by simp))
              by_cases hlt : k < came.length
              · obtain ⟨b1, o1, rfl, hb1, hz1⟩ := hrow.at (by simp; omega)
                clear hz1
                have c1 := (hrow.below hbw).cell k (by simpa using hlt)
                simp only [i64s, List.getElem_map] at c1
                have HX : Hid (came.getD k 0 = came[k]) := by simp [Hid, hlt]
                have HNO := hid (fun h => cameN_no hlt h)
                have HYS := hid (cameN_succ came k)
                rw [HX.out] at HNO HYS
                obtain ⟨v, hv⟩ : ∃ v, v = came[k] := ⟨_, rfl⟩
                rw [← hv] at c1 HNO HYS
                clear hv HX
                have HIW := hid (risW_any v)
                cases hw : isW v with
                | false =>
                  rw [hw] at HIW HNO
                  have HNO := hid (HNO.out rfl)
                  clear HYS hw
                  go_wp2_with (go_at_call 60; refine (HIW.out _).mono ?_; rintro e w1 ⟨rfl, rfl⟩)
                  go_ret
                  exact ⟨ret_bool (by rw [HG.out, HNO.out]), hbw⟩
                | true =>
                  rw [hw] at HIW HNO HYS
                  clear hw
                  obtain ⟨wo, rfl⟩ : ∃ wo : World, wo = wr := ⟨_, rfl⟩
                  go_wp2_with (go_at_call 60; refine (HIW.out _).mono ?_; rintro e w1 ⟨rfl, rfl⟩)
                  have C1 := hid c1
                  clear k4 c1
                  go_loopw [4] (fun i wr => ∃ j : Nat, j ≤ k ∧ i = .int .i64 j ∧ (came.take j).contains v = false ∧ Below (w.heap.size + 1) (w.alloc (.cells #[i64 kind, i64 n, i64 owner, i64 need, .slice (some ⟨b1, o1, none⟩) came.length c, i64 turns, .bool there] 30)) wr ∧ wr.cell? ⟨b1, o1 + k, none⟩ = some (i64 v)) (fun i _ => k - (intOf i).toNat)
                  case atStart => exact ⟨0, Nat.zero_le _, rfl, by simp, hb, C1.out⟩
                  case round =>
                    clear hb hbw hz kl
                    obtain ⟨j, hj, rfl, hcj, hb, c1⟩ := hrel
                    have HCJ := hid hcj
                    clear hcj
                    obtain ⟨⟨k0, k1, k2, k3, k4, k5, k6⟩, kf, kl⟩ := ce_blk0 ⟨kind, n, owner, need, came, turns, there⟩ (some ⟨b1, o1, none⟩) c hb
                    clear k0 k1 k2 k3 k5 k6 kf
                    dsimp only at k4
                    have hz := hb.size
                    have hbw : Below w.heap.size w wr := ((Below.refl _ _).alloc (Nat.le_refl _) _).trans (hb.mono (by simp))
                    by_cases hjk : j < k
                    · have hlj : j < came.length := by omega
                      have c2 := (hrow.below hbw).cell j (by simpa using hlj)
                      simp only [i64s, List.getElem_map] at c2
                      have HT : Hid (came.take (j + 1) = came.take j ++ [came[j]]) := take_succ came j hlj
                      have HM : Hid (came[j] ∈ came.take k) := by
                        rw [Hid, List.mem_take_iff_getElem]
                        exact ⟨j, by omega, rfl⟩
                      obtain ⟨u, hu⟩ : ∃ u, u = came[j] := ⟨_, rfl⟩
                      rw [← hu] at c2 HT HM
                      clear hu
                      by_cases huv : u = v
                      · have hbb : (u == v) = true := by simpa using huv
                        have HNO := hid (HNO.out (by rw [← huv, List.contains_iff_mem.2 HM.out]; rfl))
                        clear huv
                        go_wp2
                        go_region
                        go_wp2
                        go_ret
                        exact ⟨ret_bool (by rw [HG.out, HNO.out]), hbw.drew⟩
                      · have hbb : (u == v) = false := by simpa using huv
                        have HCN2 : Hid ((came.take (j + 1)).contains v = false) := by
                          have h1 := HCJ.out
                          rw [Hid, HT.out]
                          simp only [List.contains_eq_mem, List.mem_append, List.mem_singleton, decide_eq_false_iff_not] at h1 ⊢
                          rintro (h | h)
                          · exact h1 h
                          · exact huv h.symm
                        clear huv
                        go_wp2
                        go_region
                        go_wp2
                        go_roundw
                        case rel => exact ⟨j + 1, by omega, by go_num, HCN2.out, hb.drew, c1⟩
                        case measure => simp [intOf]; omega
                    · have hjx : j = k := by omega
                      subst hjx
                      have HYS : Hid (cameN came (j + 1) = true) := by rw [Hid, HYS.out, HCN.out, HCJ.out]; rfl
                      go_wp2
                      go_roundw
                      case rel => exact ⟨j + 1, by omega, by go_num, HYS.out, hb⟩
                      case measure => simp [intOf]; omega
              · have hkx : k = came.length := by omega
                subst hkx
                go_wp2
                go_ret
                exact ⟨ret_bool (by rw [HG.out, HCN.out]), hbw⟩
end Go.Proofs.Ythmockfeffikjaa
