/-
  The walk of SchedRuns.
-/
import Derived.Test.YthmockfeffikjaaJR2
import Derived.Test.YthmockfeffikjaaJK3
namespace Go.Proofs.Ythmockfeffikjaa
open Go.RowKit
variable {w W W' : World} {z : SetR}

set_option maxRecDepth 100000 in
set_option maxHeartbeats 4000000 in
theorem runs_no (w : World) (z : SetR) (most : Int) (hz : z.ok w) (hf : fewS z.zs z.work z.ps = false) :
    Calls Try.prog 6 #[.agg z.cells.toArray, i64 most] w fun e w' => e = .returned (.bool true) ∧ Below w.heap.size w w' := by
  have HLV := hid live_any
  have HB0 : Hid (Below w.heap.size w (w.alloc (.cells #[.slice z.cp z.zs.length z.cc, .slice z.wp z.work.length z.wc, .slice z.kp z.ps.length z.kc] 28))) := (Below.refl _ _).alloc (Nat.le_refl _) _
  have HQ0 := hid (q1_new w z)
  have HFW := hid (fun w1 (hb : Below w.heap.size w w1) => few_at (hz.below hb))
  rw [hf] at HFW
  rw [z.cells_eq] at HFW ⊢
  clear hz hf
  change Calls Try.prog 6 #[.agg #[.slice z.cp z.zs.length z.cc, .slice z.wp z.work.length z.wc, .slice z.kp z.ps.length z.kc], i64 most] w _
  go_enter Try.func6, Try.ntmps6
  go_wp2_with (first
    | (go_at_call 9; refine (HLV.out _).mono ?_; rintro e w1 ⟨rfl, hb1⟩; have HB1 := hid hb1; have HQ1 := hid (HQ0.out.below hb1); obtain ⟨x0, x1, x2⟩ := HQ1.out.facts; clear hb1)
    | (go_at_call 13; refine (HFW.out _ (HB0.out.trans (HB1.out.mono HB0.out.size))).mono ?_; rintro e w2 ⟨rfl, hb2⟩; have HB2 := hid (below_tr hb2 HB1.out (Nat.le_refl _)); clear hb2))
  go_ret
  exact ⟨rfl, HB0.out.trans (HB2.out.mono HB0.out.size)⟩
set_option maxRecDepth 100000 in
set_option maxHeartbeats 4000000 in
theorem runs_bad (w : World) (z : SetR) (most : Int) (hz : z.ok w) (hf : fewS z.zs z.work z.ps = true) (hn : nlE (z.zs.map CeR.x) z.work ≠ 0) :
    Calls Try.prog 6 #[.agg z.cells.toArray, i64 most] w fun e w' => e = .returned (.bool true) ∧ Below w.heap.size w w' := by
  have HLV := hid live_any
  have HB0 : Hid (Below w.heap.size w (w.alloc (.cells #[.slice z.cp z.zs.length z.cc, .slice z.wp z.work.length z.wc, .slice z.kp z.ps.length z.kc] 28))) := (Below.refl _ _).alloc (Nat.le_refl _) _
  have HQ0 := hid (q1_new w z)
  have HFW := hid (fun w1 (hb : Below w.heap.size w w1) => few_at (hz.below hb))
  have HBO := hid (fun w1 (hb : Below w.heap.size w w1) => both_at hz hb)
  have HNE := hid hn
  rw [hf] at HFW
  rw [z.cells_eq] at HFW HBO ⊢
  unfold BothTell at HBO
  clear hz hf hn
  change Calls Try.prog 6 #[.agg #[.slice z.cp z.zs.length z.cc, .slice z.wp z.work.length z.wc, .slice z.kp z.ps.length z.kc], i64 most] w _
  go_enter Try.func6, Try.ntmps6
  go_wp2_with (first
    | (go_at_call 9; refine (HLV.out _).mono ?_; rintro e w1 ⟨rfl, hb1⟩; have HB1 := hid hb1; have HQ1 := hid (HQ0.out.below hb1); obtain ⟨x0, x1, x2⟩ := HQ1.out.facts; clear hb1)
    | (go_at_call 13; refine (HFW.out _ (HB0.out.trans (HB1.out.mono HB0.out.size))).mono ?_; rintro e w2 ⟨rfl, hb2⟩; have HQ2 := hid (HQ1.out.below hb2); have HB2 := hid (below_tr hb2 HB1.out (Nat.le_refl _)); obtain ⟨y0, y1, y2⟩ := HQ2.out.facts; clear hb2)
    | (go_at_call 14; refine (HBO.out _ (HB0.out.trans (HB2.out.mono HB0.out.size))).mono ?_; rintro e w3 hbt; have hbt2 := hbt.resolve_right (fun h => HNE.out h.1); obtain ⟨_, rfl, hb3⟩ := hbt2; have HB3 := hid (below_tr hb3 HB2.out (Nat.le_refl _)); clear hbt hb3))
  go_ret
  exact ⟨rfl, HB0.out.trans (HB3.out.mono HB0.out.size)⟩
set_option maxRecDepth 100000 in
set_option maxHeartbeats 8000000 in
theorem runs_core (w : World) (cp : Option Addr) (cc nz : Nat) (wp : Option Addr) (wc : Nat) (work : List (List Ac)) (kp : Option Addr) (kc : Nat) (ps : List Int) (cs : List Ce) (most : Int)
    (hfw : ∀ w1, Below w.heap.size w w1 → Calls Try.prog 13 #[.agg #[.slice cp nz cc, .slice wp work.length wc, .slice kp ps.length kc]] w1 fun e w' => e = .returned (.bool true) ∧ Below w1.heap.size w1 w')
    (hbo : ∀ w1, Below w.heap.size w w1 → Calls Try.prog 14 #[.agg #[.slice cp nz cc, .slice wp work.length wc, .slice kp ps.length kc]] w1 (BothTell w w1 cs work))
    (hkc : ps.length ≤ kc ∧ kc ≤ maxLen) (hkr : Row w kp (ints64 ps)) (hp : ps.length ≤ 2000) (hn : nlE cs work = 0) :
    Calls Try.prog 6 #[.agg #[.slice cp nz cc, .slice wp work.length wc, .slice kp ps.length kc], i64 most] w fun e w' => e = .returned (.bool true) ∧ Below w.heap.size w w' := by
  have HLV := hid live_any
  have HFW := hid hfw
  have HBO := hid hbo
  have HKR := hid hkr
  have HNE := hid hn
  have HB0 : Hid (Below w.heap.size w (w.alloc (.cells #[.slice cp nz cc, .slice wp work.length wc, .slice kp ps.length kc] 28))) := (Below.refl _ _).alloc (Nat.le_refl _) _
  have HX0 : Hid ((w.alloc (.cells #[.slice cp nz cc, .slice wp work.length wc, .slice kp ps.length kc] 28)).heap[w.heap.size]? = some (.cells #[.slice cp nz cc, .slice wp work.length wc, .slice kp ps.length kc] 28 (0, 0))) := heap_alloc_new w _
  obtain ⟨S0, hS0⟩ : ∃ S0, S0 = nl0 cs work := ⟨_, rfl⟩
  have HRU1 := hid (fun (W : World) (base L : Nat) (fc fw : Nat → Prop) (H : LM W base L S0 fc fw) (hr : Row W kp (ints64 ps)) (hk : ps ≠ [] → ∀ q, kp = some q → ¬ fc q.block) => run_all (most := most) H ps kp kc hkc.1 hkc.2 hr hk (by omega))
  have HRU2 := hid (fun (W : World) (base R : Nat) (fcr fwr : Nat → Prop) (H : RLM W base R S0 fcr fwr) (hr : Row W kp (ints64 ps)) (hk : ps ≠ [] → ∀ q, kp = some q → ¬ fcr q.block) => rlrun_all (most := most) H ps kp kc hkc.1 hkc.2 hr hk (by omega))
  have HKB : Hid (ps ≠ [] → ∀ q, kp = some q → q.block < w.heap.size) := fun hne => row_lt hkr (by simpa [ints64] using hne)
  unfold BothTell at HBO
  rw [← hS0] at HBO
  unfold RunTell at HRU1
  unfold RRunTell at HRU2
  generalize S0.run ps most = T at HRU1 HRU2
  obtain ⟨S1, ⟨rp, rs, rt⟩, c1⟩ := T
  dsimp only at HRU1 HRU2
  unfold mi at HRU1
  clear hfw hbo hkr hn hkc hS0
  go_enter Try.func6, Try.ntmps6
  go_wp2_with (first
    | (go_at_call 9; refine (HLV.out _).mono ?_; rintro e w1 ⟨rfl, hb1⟩; have HB1 := hid hb1; have HX1 := hid ((hb1.block _ (by simp)).trans HX0.out); obtain ⟨x0, x1, x2, x3⟩ := box3 HX1.out; clear hb1)
    | (go_at_call 13; refine (HFW.out _ (HB0.out.trans (HB1.out.mono HB0.out.size))).mono ?_; rintro e w2 ⟨rfl, hb2⟩; have HX2 := hid ((hb2.block _ x3).trans HX1.out); have HB2 := hid (HB0.out.trans ((below_tr hb2 HB1.out (Nat.le_refl _)).mono HB0.out.size)); obtain ⟨y0, y1, y2, y3⟩ := box3 HX2.out; clear hb2)
    | (go_at_call 14; refine (HBO.out _ HB2.out).mono ?_; rintro e w3 hbt; have hbt2 := hbt.resolve_left (fun h => h.1 HNE.out); obtain ⟨_, L, R, fc, fw, fcr, B, M, rfl, hlm, hBB, hff, hrm, hrf, hMM, hb3⟩ := hbt2; have HX3 := hid ((hb3.block _ y3).trans HX2.out); have HB3 := hid (below_tr hb3 HB2.out (Nat.le_refl _)); have HLM := hid hlm; have HFF := hid hff; have HRM := hid hrm; have HRF := hid hrf; obtain ⟨z0, z1, z2, z3⟩ := box3 HX3.out; have hz2 := HB2.out.size; have hz3 := HB3.out.size; have HKA := hid (HKR.out.below HB3.out); have HR1 := hid (HRU1.out w3 B L fc fw hlm HKA.out (fun hne q e hq => by have h1 := HKB.out hne q e; have h2 := hff _ (.inl hq); omega)); clear hbt hb3 hlm hff hrm hrf)
    | (go_at_call 11; (with_reducible refine HR1.out.mono ?_); rintro e w4 ⟨rfl, fc4, hlm4, hff4, ht4, hb4⟩; have HM4 := hid hlm4; have HF4 := hid hff4; have HB4 := hid hb4; have hz4 : w3.heap.size ≤ w4.heap.size := ht4.size; have hx4 := (ht4.block _ z3 (fun h => by have := HFF.out _ (.inl h); omega)).trans HX3.out; obtain ⟨a0, a1, a2, a3⟩ := box3 hx4; have HRM4 := hid (HRM.out.kept (fun k hk => ht4.block k (HRM.out.lt k hk) (fun h => by have h1 := HFF.out _ (.inl h); rcases hk with hk | hk | hk; have := HRF.out k (.inl hk); omega; omega; have := HRF.out k (.inr hk); omega)) ht4.size); have HRW4 := hid (HKA.out.turned ht4 (fun hne q e h => by have h1 := HKB.out (by simpa [ints64] using hne) q e; have h2 := HFF.out _ (.inl h); omega)); have HR2 := hid (HRU2.out (w4.alloc (.cells #[i64 rp, i64 rs, i64 rt] 40)) M R fcr _ (HRM4.out.below ((Below.refl _ _).alloc (Nat.le_refl _) _)) (HRW4.out.alloc _) (fun hne q e hq => by have h1 := HKB.out hne q e; have h2 := HRF.out _ (.inl hq); omega)); clear hlm4 hff4 ht4 hb4 hx4)
    | (go_at_call 20; (with_reducible refine HR2.out.mono ?_); rintro e w6 ⟨rfl, ⟨fcr2, hrm6, hrf6⟩, ht6, hb6⟩; have HRM6 := hid hrm6; have HB6 := hid hb6; have hra : w6.heap[w4.heap.size]? = some (.cells #[i64 rp, i64 rs, i64 rt] 40 (0, 0)) := (ht6.block _ (by simp) (fun h => by have := HRM.out.lt _ (.inl h); omega)).trans (heap_alloc_new w4 _); have g0 := cell_of_row w6 _ 0 _ _ _ hra; have g1 := cell_of_row w6 _ 1 _ _ _ hra; have g2 := cell_of_row w6 _ 2 _ _ _ hra; have g3 : w4.heap.size < w6.heap.size := (Array.getElem?_eq_some_iff.1 hra).1; simp at g0 g1 g2; have HM6 := hid ((HM4.out.below ((Below.refl _ _).alloc (Nat.le_refl _) _)).turned ht6 (fun k hk h => by have y1 := HRF.out k (.inl h); have y2 := HRM.out.lt k (.inl h); rcases hk with hk | hk; rcases HF4.out k hk with y3 | y3; have := HFF.out k (.inl y3); omega; omega; have := HFF.out k (.inr hk); omega)); have HAK := hid (fun w' (hb : Below w6.heap.size w6 w') => alike_any (HM6.out.below hb) (hrm6.below hb)); have HFI := hid (fun w' (hb : Below w6.heap.size w6 w') => fin_any (HM6.out.below hb)); unfold mi at HFI; have HFR := hid (fun w' (hb : Below w6.heap.size w6 w') => rlfin_any (hrm6.below hb)); clear hrm6 hrf6 ht6 hb6 hra)
    | (go_at_call 21; (with_reducible refine (HAK.out _ ((Below.refl _ _).alloc (Nat.le_refl _) _)).mono ?_); rintro e w8 ⟨rfl, hb8⟩; have HB8 := hid (((Below.refl _ w6).alloc (Nat.le_refl _) _).trans (hb8.mono (by simp))); clear hb8)
    | (go_at_call 12; (with_reducible refine (HFI.out _ HB8.out).mono ?_); rintro e w9 ⟨rfl, hb9⟩; have HB9 := hid (below_tr hb9 HB8.out (Nat.le_refl _)); clear hb9)
    | (go_at_call 22; (with_reducible refine (HFR.out _ HB9.out).mono ?_); rintro e w10 ⟨rfl, hb10⟩; have HB10 := hid (below_tr hb10 HB9.out (Nat.le_refl _)); clear hb10))
  go_ret
  have hz6 := HB6.out.size
  rw [World.size_alloc] at hz6
  exact ⟨rfl, (((HB3.out.trans (HB4.out.mono (by omega))).alloc (by omega) _).trans (HB6.out.mono (by omega))).trans (HB10.out.mono (by omega))⟩
theorem runs_walk (w : World) (z : SetR) (hz : z.ok w) (most : Int) (_ : (Lit.int .i64 most).wf = true) :
    Calls Try.prog 6 #[.agg z.cells.toArray, i64 most] w fun e w' => e = .returned (.bool true) ∧ Below w.heap.size w w' := by
  cases hf : fewS z.zs z.work z.ps
  · exact runs_no w z most hz hf
  · by_cases hn : nlE (z.zs.map CeR.x) z.work = 0
    · have hfw := fun w1 (hb : Below w.heap.size w w1) => few_at (hz.below hb)
      have hbo := fun w1 (hb : Below w.heap.size w w1) => both_at hz hb
      rw [z.cells_eq] at hfw hbo ⊢
      rw [hf] at hfw
      exact runs_core w z.cp z.cc z.zs.length z.wp z.wc z.work z.kp z.kc z.ps (z.zs.map CeR.x) most hfw hbo ⟨hz.k.1, hz.k.2.1⟩ hz.k.2.2.2.1 (fewS_ps hf) hn
    · exact runs_bad w z most hz hf hn
end Go.Proofs.Ythmockfeffikjaa
