/-
  The law's own live.
-/
import Derived.Test.YthmockfeffikjaaS14
namespace Go.Proofs.Ythmockfeffikjaa
open Go.RowKit
def liveC : List Ce := [⟨2, 0, -1, 0, [], 0, false⟩]
def liveW : List (List Ac) := [[⟨3, 0, 0, 0⟩, ⟨4, 0, 0, 0⟩], [⟨3, 0, 0, 0⟩, ⟨4, 0, 0, 0⟩]]
theorem live_E : nlE liveC liveW = 0 := by decide
theorem live_run : ((nl0 liveC liveW).run [0, 1, 1] 99).2.1.p = 1 ∧ ((nl0 liveC liveW).run [0, 1, 1] 99).2.1.s = 2 ∧ ((nl0 liveC liveW).run [0, 1, 1] 99).2.1.t = 3 ∧ ((nl0 liveC liveW).run [0, 1, 1] 99).2.2 = 0 ∧ ((nl0 liveC liveW).run [0, 1, 1] 99).1.finN = true := by decide
theorem live_runs {W : World} {base L : Nat} {fc fw : Nat → Prop} (h : LM W base L (nl0 liveC liveW) fc fw) :
    Calls Try.prog 11 #[.iface 35 (.pointer (some ⟨L, 0, none⟩)), .slice (some ⟨W.heap.size, 0, none⟩) 3 3, i64 99] (W.alloc (.cells #[i64 0, i64 1, i64 1] 3)) fun e w' => e = .returned (.tuple #[.agg #[i64 1, i64 2, i64 3], i64 0]) ∧ (∀ w3, Below w'.heap.size w' w3 → Calls Try.prog 12 #[.iface 35 (.pointer (some ⟨L, 0, none⟩))] w3 fun e w4 => e = .returned (.bool true) ∧ Below w3.heap.size w3 w4) ∧ Below base W w' := by
  have hb : Below W.heap.size W (W.alloc (.cells #[i64 0, i64 1, i64 1] 3)) := (Below.refl _ _).alloc (Nat.le_refl _) _
  have hbs : base ≤ W.heap.size := by obtain ⟨_, _, _, _, _, _, _, _, _, hh, _⟩ := h; exact hh.bs
  have h1 := run_any (most := 99) (h.below hb) [0, 1, 1] (some ⟨W.heap.size, 0, none⟩) 3 (Nat.le_refl _) (by decide) (row_new W (ints64 [0, 1, 1]) 3) (fun _ q e hq => by
    injection e with e
    have := h.lt _ (.inl hq)
    rw [← e] at this
    exact absurd this (Nat.lt_irrefl _)) (by simp) (by decide) (by decide)
  refine h1.mono ?_
  rintro e w' ⟨rfl, fc2, g1, g2, g3, g4⟩
  obtain ⟨e1, e2, e3, e4, e5⟩ := live_run
  refine ⟨by rw [e1, e2, e3, e4], fun w3 hb3 => ?_, (hb.mono hbs).trans g4⟩
  have h2 := fin_any (g1.below hb3)
  rw [e5] at h2
  exact h2
set_option maxHeartbeats 4000000 in
theorem live_any (w : World) : Calls Try.prog 9 #[] w fun e w' => e = .returned (.bool true) ∧ Below w.heap.size w w' := by
  have HRN := hid live_run
  obtain ⟨wA, hA⟩ : ∃ x, x = w.alloc (.cells #[i64 3, i64 0, i64 0, i64 0, i64 4, i64 0, i64 0, i64 0] 34) := ⟨_, rfl⟩
  obtain ⟨wB, hB⟩ : ∃ x, x = wA.alloc (.cells #[i64 2, i64 0, i64 (-1), i64 0, .slice none 0 0, i64 0, .bool false] 30) := ⟨_, rfl⟩
  obtain ⟨wC, hC⟩ : ∃ x, x = wB.alloc (.cells #[.slice (some ⟨w.heap.size, 0, none⟩) 2 2, .slice (some ⟨w.heap.size, 0, none⟩) 2 2] 32) := ⟨_, rfl⟩
  have hzA : wA.heap.size = w.heap.size + 1 := by rw [hA]; simp
  have hzB : wB.heap.size = w.heap.size + 2 := by rw [hB]; simp [hzA]
  have hbC : Hid (Below w.heap.size w wC) := by
    rw [hC, hB, hA]
    exact (((Below.refl _ _).alloc (Nat.le_refl _) _).alloc (by simp) _).alloc (by simp; omega) _
  have hAC : Below wA.heap.size wA wC := by
    rw [hC, hB]
    exact ((Below.refl _ _).alloc (Nat.le_refl _) _).alloc (by simp) _
  have hBC : Below wB.heap.size wB wC := by
    rw [hC]
    exact (Below.refl _ _).alloc (Nat.le_refl _) _
  have hr1 : Row wC (some ⟨w.heap.size + 1, 0, none⟩) (ceRow [⟨⟨2, 0, -1, 0, [], 0, false⟩, none, 0⟩]) := by
    have h := row_newAt wA (ceRow [⟨⟨2, 0, -1, 0, [], 0, false⟩, none, 0⟩]) 30 (w.heap.size + 1) hzA.symm
    have h2 : Row wB (some ⟨w.heap.size + 1, 0, none⟩) (ceRow [⟨⟨2, 0, -1, 0, [], 0, false⟩, none, 0⟩]) := by rw [hB]; exact h
    exact h2.below hBC
  have hr0 : Row wC (some ⟨w.heap.size, 0, none⟩) (acRow [⟨3, 0, 0, 0⟩, ⟨4, 0, 0, 0⟩]) := by
    have h2 : Row wA (some ⟨w.heap.size, 0, none⟩) (acRow [⟨3, 0, 0, 0⟩, ⟨4, 0, 0, 0⟩]) := by rw [hA]; exact row_newAt w (acRow [⟨3, 0, 0, 0⟩, ⟨4, 0, 0, 0⟩]) 34 _ rfl
    exact h2.below hAC
  have hr2 : Row wC (some ⟨w.heap.size + 1 + 1, 0, none⟩) (wkCells [(some ⟨w.heap.size, 0, none⟩, 2), (some ⟨w.heap.size, 0, none⟩, 2)] liveW) := by
    rw [hC]
    exact row_newAt wB (wkCells [(some ⟨w.heap.size, 0, none⟩, 2), (some ⟨w.heap.size, 0, none⟩, 2)] liveW) 32 _ hzB.symm
  have hac : AcAt wC (some ⟨w.heap.size, 0, none⟩, 2) [⟨3, 0, 0, 0⟩, ⟨4, 0, 0, 0⟩] := ⟨Nat.le_refl _, (by show 2 ≤ maxLen; decide), by simp, hr0⟩
  have HNL : Hid (Calls Try.prog 10 #[.slice (some ⟨w.heap.size + 1, 0, none⟩) 1 1, .slice (some ⟨w.heap.size + 1 + 1, 0, none⟩) 2 2] wC (NLTell wC liveC liveW)) :=
    newlists_any (some ⟨w.heap.size + 1, 0, none⟩) 1 [⟨⟨2, 0, -1, 0, [], 0, false⟩, none, 0⟩] wC (Nat.le_refl _) (by decide) hr1 (fun z hz => by
      rw [List.mem_singleton.1 hz]
      exact ⟨Nat.le_refl _, Nat.zero_le _, fun _ => rfl, Row.nil _ _⟩) (fun z hz => by rw [List.mem_singleton.1 hz]; exact Nat.zero_le _)
      (some ⟨w.heap.size + 1 + 1, 0, none⟩) 2 [(some ⟨w.heap.size, 0, none⟩, 2), (some ⟨w.heap.size, 0, none⟩, 2)] liveW (fun _ => True)
      ⟨hr2, ⟨Nat.le_refl _, by decide⟩, rfl, fun i h1 h2 => by
        match i, h1 with
        | 0, _ => exact hac
        | 1, _ => exact hac, fun _ _ _ => trivial, fun _ _ _ _ _ _ => trivial⟩ (fun l hl => by
        simp [liveW] at hl
        rw [hl]; simp)
  clear hr0 hr1 hr2 hac hAC hBC hzA hzB
  subst hC hB hA
  unfold NLTell at HNL
  go_enter Try.func9, Try.ntmps9
  go_wp2_with (first
    | (go_at_call 10; (with_reducible refine HNL.out.mono ?_); rintro e w1 hnt; have hnt2 := hnt.resolve_right (fun h => h.1 live_E); obtain ⟨_, L, fc, fw, rfl, hlm, hff, hb1⟩ := hnt2; have HLM := hid hlm; have HFF := hid hff; have HB1 := hid (hbC.out.trans (hb1.mono hbC.out.size)); have HRU := hid (live_runs hlm); have hbs1 : w.heap.size ≤ w1.heap.size := (by have := hb1.size; have h3 := hbC.out.size; omega); have HWK : Hid (Calls Try.prog 25 #[.pointer (some ⟨L, 0, none⟩)] w1 fun e w' => e = .returned (i64 2) ∧ w1 = w') := lworkers_any hlm; clear hnt hlm hff hb1)
    | (go_at_call 25; (with_reducible refine HWK.out.mono ?_); rintro e w' ⟨rfl, rfl⟩)
    | (go_at_call 11; (with_reducible refine HRU.out.mono ?_); rintro e w2 ⟨rfl, hfin2, hb2⟩; have HFN := hid hfin2; have HB2 := hid (HB1.out.trans (hb2.mono hbC.out.size)); clear hfin2 hb2)
    | (go_at_call 12; (with_reducible refine (HFN.out _ ((Below.refl _ _).alloc (Nat.le_refl _) _)).mono ?_); rintro e w4 ⟨rfl, hb4⟩; have HB4 := hid hb4; clear hb4))
  go_ret
  exact ⟨ret_bool rfl, HB2.out.trans ((((Below.refl _ _).alloc (Nat.le_refl _) _).trans (HB4.out.mono (by simp))).mono HB2.out.size)⟩
end Go.Proofs.Ythmockfeffikjaa
