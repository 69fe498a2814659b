/-
  The walk of SchedSkips.
  The walk of SchedSkips where there is a machine.
  SchedSkips at a setup that came in.
-/
import Derived.Test.YthmockfeffikjaaJK2
import Derived.Test.YthmockfeffikjaaJE27
import Derived.Test.YthmockfeffikjaaJE25
namespace Go.Proofs.Ythmockfeffikjaa
open Go.RowKit
variable {w W W' : World} {z : SetR}

/-- The law's own block: the setup. -/
structure Q1 (A : Nat) (z : SetR) (W : World) : Prop where
  a : W.heap[A]? = some (.cells #[.slice z.cp z.zs.length z.cc, .slice z.wp z.work.length z.wc, .slice z.kp z.ps.length z.kc] 28 (0, 0))
theorem Q1.lt {A : Nat} (h : Q1 A z W) : A < W.heap.size := (Array.getElem?_eq_some_iff.1 h.a).1
theorem Q1.below {A : Nat} (h : Q1 A z W) (hb : Below W.heap.size W W') : Q1 A z W' := ⟨(hb.block _ h.lt).trans h.a⟩
theorem Q1.belowB {A B : Nat} (h : Q1 A z W) (hb : Below B W W') (hA : A < B) : Q1 A z W' := ⟨(hb.block _ hA).trans h.a⟩
theorem Q1.facts {A : Nat} (h : Q1 A z W) : W.cell? ⟨A, 0, none⟩ = some (.slice z.cp z.zs.length z.cc) ∧ W.cell? ⟨A, 1, none⟩ = some (.slice z.wp z.work.length z.wc) ∧ W.cell? ⟨A, 2, none⟩ = some (.slice z.kp z.ps.length z.kc) :=
  ⟨cell_of_row _ _ 0 _ _ _ h.a, cell_of_row _ _ 1 _ _ _ h.a, cell_of_row _ _ 2 _ _ _ h.a⟩
theorem q1_new (w : World) (z : SetR) : Q1 w.heap.size z (w.alloc (.cells #[.slice z.cp z.zs.length z.cc, .slice z.wp z.work.length z.wc, .slice z.kp z.ps.length z.kc] 28)) := ⟨heap_alloc_new w _⟩

set_option maxRecDepth 100000 in
set_option maxHeartbeats 4000000 in
theorem skips_no (w : World) (z : SetR) (hz : z.ok w) (hf : fewS z.zs z.work z.ps = false) :
    Calls Try.prog 4 #[.agg z.cells.toArray] w fun e w' => e = .returned (.bool true) ∧ Below w.heap.size w w' := by
  have HLV := hid live_any
  have HB0 : Hid (Below w.heap.size w (w.alloc (.cells #[.slice z.cp z.zs.length z.cc, .slice z.wp z.work.length z.wc, .slice z.kp z.ps.length z.kc] 28))) := (Below.refl _ _).alloc (Nat.le_refl _) _
  have HQ0 := hid (q1_new w z)
  have HFW := hid (fun w1 (hb : Below w.heap.size w w1) => few_at (hz.below hb))
  rw [hf] at HFW
  rw [z.cells_eq] at HFW ⊢
  clear hz hf
  change Calls Try.prog 4 #[.agg #[.slice z.cp z.zs.length z.cc, .slice z.wp z.work.length z.wc, .slice z.kp z.ps.length z.kc]] w _
  go_enter Try.func4, Try.ntmps4
  go_wp2_with (first
    | (go_at_call 9; refine (HLV.out _).mono ?_; rintro e w1 ⟨rfl, hb1⟩; have HB1 := hid hb1; have HQ1 := hid (HQ0.out.below hb1); obtain ⟨x0, x1, x2⟩ := HQ1.out.facts; clear hb1)
    | (go_at_call 13; refine (HFW.out _ (HB0.out.trans (HB1.out.mono HB0.out.size))).mono ?_; rintro e w2 ⟨rfl, hb2⟩; have HB2 := hid (below_tr hb2 HB1.out (Nat.le_refl _)); clear hb2))
  go_ret
  exact ⟨rfl, HB0.out.trans (HB2.out.mono HB0.out.size)⟩
set_option maxRecDepth 100000 in
set_option maxHeartbeats 4000000 in
theorem skips_bad (w : World) (z : SetR) (hz : z.ok w) (hf : fewS z.zs z.work z.ps = true) (hn : nlE (z.zs.map CeR.x) z.work ≠ 0) :
    Calls Try.prog 4 #[.agg z.cells.toArray] w fun e w' => e = .returned (.bool true) ∧ Below w.heap.size w w' := by
  have HLV := hid live_any
  have HB0 : Hid (Below w.heap.size w (w.alloc (.cells #[.slice z.cp z.zs.length z.cc, .slice z.wp z.work.length z.wc, .slice z.kp z.ps.length z.kc] 28))) := (Below.refl _ _).alloc (Nat.le_refl _) _
  have HQ0 := hid (q1_new w z)
  have HFW := hid (fun w1 (hb : Below w.heap.size w w1) => few_at (hz.below hb))
  have HBO := hid (fun w1 (hb : Below w.heap.size w w1) => both_at hz hb)
  have HNE := hid hn
  rw [hf] at HFW
  rw [z.cells_eq] at HFW HBO ⊢
  unfold BothTell at HBO
  clear hz hf hn
  change Calls Try.prog 4 #[.agg #[.slice z.cp z.zs.length z.cc, .slice z.wp z.work.length z.wc, .slice z.kp z.ps.length z.kc]] w _
  go_enter Try.func4, Try.ntmps4
  go_wp2_with (first
    | (go_at_call 9; refine (HLV.out _).mono ?_; rintro e w1 ⟨rfl, hb1⟩; have HB1 := hid hb1; have HQ1 := hid (HQ0.out.below hb1); obtain ⟨x0, x1, x2⟩ := HQ1.out.facts; clear hb1)
    | (go_at_call 13; refine (HFW.out _ (HB0.out.trans (HB1.out.mono HB0.out.size))).mono ?_; rintro e w2 ⟨rfl, hb2⟩; have HQ2 := hid (HQ1.out.below hb2); have HB2 := hid (below_tr hb2 HB1.out (Nat.le_refl _)); obtain ⟨y0, y1, y2⟩ := HQ2.out.facts; clear hb2)
    | (go_at_call 14; refine (HBO.out _ (HB0.out.trans (HB2.out.mono HB0.out.size))).mono ?_; rintro e w3 hbt; have hbt2 := hbt.resolve_right (fun h => HNE.out h.1); obtain ⟨_, rfl, hb3⟩ := hbt2; have HB3 := hid (below_tr hb3 HB2.out (Nat.le_refl _)); clear hbt hb3))
  go_ret
  exact ⟨rfl, HB0.out.trans (HB3.out.mono HB0.out.size)⟩
end Go.Proofs.Ythmockfeffikjaa
namespace Go.Proofs.Ythmockfeffikjaa
open Go.RowKit

theorem box3 {W : World} {A : Nat} {a b c : Value} (h : W.heap[A]? = some (.cells #[a, b, c] 28 (0, 0))) : W.cell? ⟨A, 0, none⟩ = some a ∧ W.cell? ⟨A, 1, none⟩ = some b ∧ W.cell? ⟨A, 2, none⟩ = some c ∧ A < W.heap.size :=
  ⟨cell_of_row _ _ 0 _ _ _ h, cell_of_row _ _ 1 _ _ _ h, cell_of_row _ _ 2 _ _ _ h, (Array.getElem?_eq_some_iff.1 h).1⟩
/-- A machine, after another one's run. -/
theorem LM.turned {W W' : World} {B L : Nat} {S : SL} {fc fw f2 : Nat → Prop} (h : LM W B L S fc fw) (ht : Turn f2 W W') (hd : ∀ k, fc k ∨ fw k → ¬ f2 k) : LM W' B L S fc fw :=
  h.kept (fun k hk => ht.block k (h.lt k hk) (hd k hk)) ht.size
theorem Row.turned {W W' : World} {p : Option Addr} {cs : List Value} {f2 : Nat → Prop} (h : Row W p cs) (ht : Turn f2 W W') (hd : cs ≠ [] → ∀ q, p = some q → ¬ f2 q.block) : Row W' p cs :=
  row_blk h (fun hne q e => ht.block _ (row_lt h hne q e) (hd hne q e))

theorem ans_len {W : World} {B L : Nat} {S : SL} {fc fw : Nat → Prop} (H : LM W B L S fc fw) (k : Nat) : (S.ans (k : Int)).length ≤ 4398046511104 := by
  unfold SL.ans
  by_cases h : 0 ≤ (k : Int) ∧ (k : Int) < S.work.length
  · rw [if_pos h, Int.toNat_natCast]
    obtain ⟨_, _, _, _, _, _, _, _, _, _, h7, _⟩ := H.ansAt k (by omega)
    exact h7
  · rw [if_neg h]; simp
set_option maxRecDepth 100000 in
set_option maxHeartbeats 8000000 in
theorem skips_core (w : World) (cp : Option Addr) (cc nz : Nat) (wp : Option Addr) (wc : Nat) (work : List (List Ac)) (kp : Option Addr) (kc : Nat) (ps : List Int) (cs : List Ce)
    (hfw : ∀ w1, Below w.heap.size w w1 → Calls Try.prog 13 #[.agg #[.slice cp nz cc, .slice wp work.length wc, .slice kp ps.length kc]] w1 fun e w' => e = .returned (.bool true) ∧ Below w1.heap.size w1 w')
    (hbo : ∀ w1, Below w.heap.size w w1 → Calls Try.prog 14 #[.agg #[.slice cp nz cc, .slice wp work.length wc, .slice kp ps.length kc]] w1 (BothTell w w1 cs work))
    (hnl : ∀ w1, Below w.heap.size w w1 → Calls Try.prog 10 #[.slice cp nz cc, .slice wp work.length wc] w1 (NLTell w1 cs work))
    (hkc : ps.length ≤ kc ∧ kc ≤ maxLen) (hkr : Row w kp (ints64 ps)) (hp : ps.length ≤ 2000) (hn : nlE cs work = 0) :
    Calls Try.prog 4 #[.agg #[.slice cp nz cc, .slice wp work.length wc, .slice kp ps.length kc]] w fun e w' => e = .returned (.bool true) ∧ Below w.heap.size w w' := by
  have HLV := hid live_any
  have HFW := hid hfw
  have HBO := hid hbo
  have HNL := hid hnl
  have HKR := hid hkr
  have HNE := hid hn
  have HKC := hid hkc
  have HB0 : Hid (Below w.heap.size w (w.alloc (.cells #[.slice cp nz cc, .slice wp work.length wc, .slice kp ps.length kc] 28))) := (Below.refl _ _).alloc (Nat.le_refl _) _
  have HX0 : Hid ((w.alloc (.cells #[.slice cp nz cc, .slice wp work.length wc, .slice kp ps.length kc] 28)).heap[w.heap.size]? = some (.cells #[.slice cp nz cc, .slice wp work.length wc, .slice kp ps.length kc] 28 (0, 0))) := heap_alloc_new w _
  have hw64 : work.length ≤ 64 := by
    unfold nlE at hn
    by_cases h : newE cs = 0
    · rw [if_neg (by omega)] at hn
      by_cases h2 : work.length < 1 ∨ 64 < work.length
      · rw [if_pos h2] at hn; cases hn
      · omega
    · rw [if_pos h] at hn; exact absurd hn h
  unfold BothTell at HBO
  unfold NLTell at HNL
  clear hfw hbo hnl hkr hn hkc
  go_enter Try.func4, Try.ntmps4
  go_wp2_with (first
    | (go_at_call 9; refine (HLV.out _).mono ?_; rintro e w1 ⟨rfl, hb1⟩; have HB1 := hid hb1; have HX1 := hid ((hb1.block _ (by simp)).trans HX0.out); obtain ⟨x0, x1, x2, x3⟩ := box3 HX1.out; clear hb1)
    | (go_at_call 13; refine (HFW.out _ (HB0.out.trans (HB1.out.mono HB0.out.size))).mono ?_; rintro e w2 ⟨rfl, hb2⟩; have HX2 := hid ((hb2.block _ x3).trans HX1.out); have HB2 := hid (HB0.out.trans ((below_tr hb2 HB1.out (Nat.le_refl _)).mono HB0.out.size)); obtain ⟨y0, y1, y2, y3⟩ := box3 HX2.out; clear hb2)
    | (go_at_call 14; refine (HBO.out _ HB2.out).mono ?_; rintro e w3 hbt; have hbt2 := hbt.resolve_left (fun h => h.1 HNE.out); obtain ⟨_, L, R, fc, fw, fcr, B, M, rfl, hlm, hBB, hff, hrm, hrf, hMM, hb3⟩ := hbt2; have HX3 := hid ((hb3.block _ y3).trans HX2.out); have HB3 := hid (below_tr hb3 HB2.out (Nat.le_refl _)); have HLM := hid hlm; have HFF := hid hff; have HRM := hid hrm; have HRF := hid hrf; obtain ⟨z0, z1, z2, z3⟩ := box3 HX3.out; clear hbt hb3 hlm hff hrm hrf))
  obtain ⟨S0, hS0⟩ : ∃ S0, S0 = nl0 cs work := ⟨_, rfl⟩
  have hSw : S0.work = work := by rw [hS0]; rfl
  rw [← hS0] at HLM HRM HNL
  have HSW := hid hSw
  have hz2 := HB2.out.size
  have hz3 := HB3.out.size
  have hRM : M ≤ R := HRF.out R (.inr rfl)
  have hR3 : R < w3.heap.size := HRM.out.r1.1
  have hwx : w.heap.size < w2.heap.size := y3
  have hHM : Hid (∀ k, fc k ∨ fw k → w2.heap.size ≤ k ∧ k < M) := HFF.out
  clear hS0 hSw x0 x1 x2 x3 y0 y1 y2 y3
  go_loopw [6, 37] (fun pv i wr => ∃ j : Nat, j ≤ ps.length ∧ i = .int .i64 j ∧ SKI w w3 M R S0 ps j wr pv) (fun _ i _ => ps.length - (intOf i).toNat)
  case atStart => exact ⟨0, Nat.zero_le _, rfl, SKI.start HRM.out HRF.out⟩
  case round =>
    obtain ⟨j, hj, rfl, hsk⟩ := hrel
    have HSK := hid hsk
    have hbw : Below w.heap.size w wr := HB3.out.trans (hsk.b.mono (by omega))
    have hml := hsk.mlt
    by_cases hlt : j < ps.length
    · have hltI : (j : Int) < ps.length := by omega
      obtain ⟨b, o, rfl, hbz, hcc⟩ := HKR.out.at (by simp [ints64]; omega)
      have hcj := hcc j (by simp [ints64]; omega)
      simp only [ints64, List.getElem_map] at hcj
      have hcell := (hbw.cell (p := ⟨b, o + j, none⟩) hbz).trans hcj
      obtain ⟨fcr2, hrm, _, _⟩ := hsk.ex
      have HCN := hid (rcan_any hrm ps[j])
      have HOW := hid hsk.own
      have HFL := hid (filt_len (ps.take j) S0)
      have hfl : (S0.filt (ps.take j)).length ≤ 2000 := by have := HFL.out; simp at this; omega
      obtain ⟨p, hpj⟩ : ∃ p, p = ps[j] := ⟨_, rfl⟩
      rw [← hpj] at hcell HCN
      have HPJ := hid hpj
      cases hc : (S0.goes (ps.take j)).canN p
      · rw [hc] at HCN
        have HC := hid hc
        clear hcj hcc hsk hrm hpj hc
        go_wp2_with (go_at_call 15; (with_reducible refine HCN.out.mono ?_); rintro e w4 ⟨rfl, hb4⟩; have HB4 := hid hb4; clear hb4)
        go_roundw
        case rel => exact ⟨j + 1, by omega, by go_num, HSK.out.no hlt HB4.out (by rw [← HPJ.out]; exact HC.out)⟩
        case measure => simp [intOf]; omega
      · rw [hc] at HCN
        have HC := hid hc
        generalize hfn : (S0.filt (ps.take j)).length = fn at *
        have HFN := hid hfn
        clear hcj hcc hsk hrm hpj hc hfn
        go_wp2_with (first
          | (go_at_call 15; (with_reducible refine HCN.out.mono ?_); rintro e w4 ⟨rfl, hb4⟩; have HB4 := hid hb4; have HOW4 := hid (own_below HOW.out hb4); have hz4 : wr.heap.size ≤ w4.heap.size := hb4.size; clear hb4)
          | ((with_reducible show wpList _ _ _ (⟨some 47, _, _, _, _, _⟩ :: _) _ _); go_loud (refine wpList_app EI rfl _ _ rfl w3.heap.size u6 fn (ints64 (S0.filt (ps.take j))) rfl (HOW4.out.alloc _) _ 1 1 [i64 p] rfl rfl (by simp) (row_newAt _ _ _ _ (by simp)) (by simp [Value.oneCell']) (by unfold maxLen; omega) (by omega) (by have := HSK.out.b.size; simp; omega) ?_); intro v5 w5 ho5 hg5 hs5; obtain ⟨vp5, vc5, rfl, _⟩ := own_row ho5; rw [← HFN.out] at ho5 hs5; obtain ⟨fcr3, hska⟩ := HSK.out.app (by omega) hR3 HB4.out ho5 hg5 hs5; have HSA := hid hska; have HST := hid (rlstep_any hska.m p); clear ho5 hg5 hs5 hska)
          | (go_at_call 16; (with_reducible refine HST.out.mono ?_); rintro e w6 hst; rw [HPJ.out] at hst; have HSN := hid (HSA.out.step hlt HPJ.out (by rw [← HPJ.out]; exact HC.out) hst); obtain ⟨rfl, _⟩ := hst))
        go_roundw
        case rel => exact ⟨j + 1, by omega, by go_num, by have h := HSN.out; rw [HFN.out] at h; exact h⟩
        case measure => simp [intOf]; omega
    · have hltI : ¬ ((j : Int) < ps.length) := by omega
      obtain rfl : j = ps.length := by omega
      have hown := hsk.own
      rw [List.take_length] at hown
      obtain ⟨pp, pc, rfl, hp1, hp2, hrow2, _, hge2⟩ := own_row hown
      have hl2 := filt_len ps S0
      have hrf := run_filt S0 ps 1099511627776 (by omega)
      generalize S0.filt ps = l2 at *
      have HROW2 := hid hrow2
      have HGE2 := hid hge2
      have HPP : Hid (l2 ≠ [] → ∀ q, pp = some q → q.block < wr.heap.size) := fun hne => row_lt hrow2 (by simpa [ints64] using hne)
      have HRU1 := hid (fun (W : World) (base L : Nat) (fc fw : Nat → Prop) (H : LM W base L S0 fc fw) (hr : Row W kp (ints64 ps)) (hk : ps ≠ [] → ∀ q, kp = some q → ¬ fc q.block) => run_any (most := 1099511627776) H ps kp kc HKC.out.1 HKC.out.2 hr hk (by omega) (by omega) (by omega))
      have HRU2 := hid (fun (W : World) (base L : Nat) (fc fw : Nat → Prop) (H : LM W base L S0 fc fw) (hr : Row W pp (ints64 l2)) (hk : l2 ≠ [] → ∀ q, pp = some q → ¬ fc q.block) => run_any (most := 1099511627776) H l2 pp pc hp1 hp2 hr hk (by omega) (by omega) (by omega))
      unfold RunTell at HRU1 HRU2
      generalize S0.run ps 1099511627776 = T1 at hrf HRU1
      generalize S0.run l2 1099511627776 = T2 at hrf HRU2
      obtain ⟨S1, ⟨r1, s1, t1⟩, c1⟩ := T1
      obtain ⟨S2, ⟨r2, s2, t2⟩, c2⟩ := T2
      obtain ⟨e1, e2, e3, e4, e5⟩ := hrf
      dsimp only at e1 e2 e3 e4 e5 HRU1 HRU2
      subst e1 e2 e3 e4 e5
      have HXA := hid ((hsk.b.block _ (show w.heap.size < M by omega)).trans HX3.out)
      obtain ⟨a0, a1, a2, a3⟩ := box3 HXA.out
      have HMA := hid (HLM.out.kept (fun k hk => hsk.b.block k (HFF.out k hk).2) hsk.b.size)
      have HBW := hid hbw
      have HNA := hid (HNL.out wr hbw)
      have HKB : Hid (ps ≠ [] → ∀ q, kp = some q → q.block < w.heap.size) := fun hne => row_lt HKR.out (by simpa [ints64] using hne)
      have HKA := hid (HKR.out.below hbw)
      have hzr := hsk.b.size
      unfold mi at HRU1 HRU2
      clear hsk hown hrow2 hge2 hbw
      go_wp2_with (first
        | (go_at_call 10; (with_reducible refine HNA.out.mono ?_); rintro e w7 hnt; have hnt2 := hnt.resolve_right (fun h => h.1 HNE.out); obtain ⟨_, L2, fc3, fw3, rfl, hlm7, hff7, hb7⟩ := hnt2; have HO7 := hid hlm7; have HF7 := hid hff7; have HB7 := hid hb7; have HM7 := hid (HMA.out.below hb7); have HX7 := hid ((hb7.block _ a3).trans HXA.out); obtain ⟨b0, b1, b2, b3⟩ := box3 HX7.out; have hz7 : wr.heap.size ≤ w7.heap.size := hb7.size; have HR1 := hid (HRU1.out w7 B L fc fw HM7.out (HKA.out.below hb7) (fun hne q e hq => by have h1 := HKB.out hne q e; have h2 := HFF.out _ (.inl hq); omega)); clear hnt hlm7 hff7 hb7)
        | (go_at_call 11; (with_reducible refine HR1.out.mono ?_); rintro e w8 ⟨rfl, fc8, hlm8, hff8, ht8, hb8⟩; have HM8 := hid hlm8; have HF8 := hid hff8; have HB8 := hid hb8; have hz8 : w7.heap.size ≤ w8.heap.size := ht8.size; have HO8 := hid (HO7.out.turned ht8 (fun k hk h => by have h1 := HF7.out k hk; have h2 := HFF.out k (.inl h); omega)); have HX8 := hid ((ht8.block _ b3 (fun h => by have := HFF.out _ (.inl h); omega)).trans HX7.out); have HRW8 := hid ((HROW2.out.below HB7.out).turned ht8 (fun _ q e h => by have h1 := HGE2.out q e; have h2 := HFF.out _ (.inl h); omega)); have HR2 := hid (HRU2.out (w8.alloc (.cells #[i64 r2, i64 s1, i64 t2] 40)) wr.heap.size L2 fc3 fw3 (HO8.out.below ((Below.refl _ _).alloc (Nat.le_refl _) _)) (HRW8.out.alloc _) (fun hne q e hq => by have h1 := HPP.out hne q e; have h2 := HF7.out _ (.inl hq); omega)); clear hlm8 hff8 ht8 hb8)
        | (go_at_call 11; (with_reducible refine HR2.out.mono ?_); rintro e w10 ⟨rfl, fc10, hlm10, hff10, ht10, hb10⟩; have hra : w10.heap[w8.heap.size]? = some (.cells #[i64 r2, i64 s1, i64 t2] 40 (0, 0)) := (ht10.block _ (by simp) (fun h => by have := HO7.out.lt _ (.inl h); omega)).trans (heap_alloc_new w8 _); have g0 := cell_of_row w10 _ 0 _ _ _ hra; have g2 := cell_of_row w10 _ 2 _ _ _ hra; have g3 : w8.heap.size < w10.heap.size := (Array.getElem?_eq_some_iff.1 hra).1; simp at g0 g2; have hx10 := (hb10.block _ a3).trans ((Below.heap_alloc _ _ _ (by omega)).trans HX8.out); obtain ⟨h0, h1, h2, h3⟩ := box3 hx10; have HO10 := hid hlm10; have HB10 := hid hb10; have HM10 := hid ((HM8.out.below ((Below.refl _ _).alloc (Nat.le_refl _) _)).turned ht10 (fun k hk h => by have y1 := HF7.out k (.inl h); have y2 := HO7.out.lt k (.inl h); rcases hk with hk | hk; rcases HF8.out k hk with y3 | y3; have := HFF.out k (.inl y3); omega; omega; have := HFF.out k (.inr hk); omega)); clear hlm10 hff10 ht10 hb10 hra hx10))
      obtain ⟨w11, hw11⟩ : ∃ w11, w11 = w10.alloc (.cells #[i64 r2, i64 0, i64 t2] 40) := ⟨_, rfl⟩
      rw [← hw11]
      have hb11 : Below w10.heap.size w10 w11 := by rw [hw11]; exact (Below.refl _ _).alloc (Nat.le_refl _) _
      have HM11 := hid (HM10.out.below hb11)
      have HO11 := hid (HO10.out.below hb11)
      have HBF : Hid (Below w.heap.size w w11) := (((((HBW.out.trans (HB7.out.mono (by omega))).trans (HB8.out.mono (by omega))).alloc (by omega) _).trans (HB10.out.mono (by omega))).trans (hb11.mono (by omega)))
      clear hw11 hb11 a0 a1 a2 b0 b1 b2 h0 h1 h2 h3 g0 g2 g3 z0 z1 z2 hl2 hp1 hp2
      go_loopw [106] (fun i wr => ∃ k : Nat, k ≤ work.length ∧ i = .int .i64 k ∧ Below w11.heap.size w11 wr) (fun i _ => work.length - (intOf i).toNat)
      case atStart => exact ⟨0, Nat.zero_le _, rfl, Below.refl _ _⟩
      case round =>
        obtain ⟨k, hk, rfl, hb⟩ := hrel
        have HBK := hid hb
        by_cases hlt : k < work.length
        · have hltI : (k : Int) < work.length := by omega
          have HA1 := hid (lanswers_any (HM11.out.below hb) k)
          have HA2 := hid (fun w' (hb2 : Below wr.heap.size wr w') => lanswers_any ((HO11.out.below hb).below hb2) k)
          have hal := ans_len HM11.out k
          unfold AnTell at HA1 HA2
          generalize S2.ans (k : Int) = l at *
          clear hb
          go_wp2_with (first
            | (go_at_call 18; (with_reducible refine HA1.out.mono ?_); rintro e u1 ⟨p1, k1, rfl, hr1, hb1⟩; have HW1 := hid hb1; have HR1 := hid hr1; clear hr1 hb1)
            | (go_at_call 18; (with_reducible refine (HA2.out _ HW1.out).mono ?_); rintro e u2 ⟨p2, k2, rfl, hr2, hb2⟩; have HW2 := hid (below_tr hb2 HW1.out (Nat.le_refl _)); have HS := hid (same_true l p1 p2 k1 k2 u2 (by omega) (HR1.out.below hb2) hr2); clear hr2 hb2)
            | (go_at_call 17; (with_reducible refine HS.out.mono ?_); rintro e u3 ⟨rfl, hb3⟩; have HW3 := hid (below_tr hb3 HW2.out (Nat.le_refl _)); clear hb3))
          go_roundw
          case rel => exact ⟨k + 1, by omega, by go_num, below_tr HW3.out HBK.out (Nat.le_refl _)⟩
          case measure => simp [intOf]; omega
        · have hltI : ¬ ((k : Int) < work.length) := by omega
          go_wp2_with fail
          go_ret
          exact ⟨rfl, below_tr hb HBF.out (Nat.le_refl _)⟩
end Go.Proofs.Ythmockfeffikjaa
namespace Go.Proofs.Ythmockfeffikjaa
open Go.RowKit

theorem fewS_ps {zs : List CeR} {work : List (List Ac)} {ps : List Int} (h : fewS zs work ps = true) : ps.length ≤ 2000 := by
  unfold fewS at h
  simp at h
  omega
theorem skips_walk (w : World) (z : SetR) (hz : z.ok w) :
    Calls Try.prog 4 #[.agg z.cells.toArray] w fun e w' => e = .returned (.bool true) ∧ Below w.heap.size w w' := by
  cases hf : fewS z.zs z.work z.ps
  · exact skips_no w z hz hf
  · by_cases hn : nlE (z.zs.map CeR.x) z.work = 0
    · have hfw := fun w1 (hb : Below w.heap.size w w1) => few_at (hz.below hb)
      have hbo := fun w1 (hb : Below w.heap.size w w1) => both_at hz hb
      rw [z.cells_eq] at hfw hbo ⊢
      rw [hf] at hfw
      exact skips_core w z.cp z.cc z.zs.length z.wp z.wc z.work z.kp z.kc z.ps (z.zs.map CeR.x) hfw hbo (fun w1 hb => newlists_at (hz.below hb)) ⟨hz.k.1, hz.k.2.1⟩ hz.k.2.2.2.1 (fewS_ps hf) hn
    · exact skips_bad w z hz hf hn
end Go.Proofs.Ythmockfeffikjaa
