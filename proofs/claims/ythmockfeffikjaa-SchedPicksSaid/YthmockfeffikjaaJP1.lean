/-
  The walk of SchedPicks.
-/
import Derived.Test.YthmockfeffikjaaJP0
import Derived.Test.YthmockfeffikjaaJK3
import Derived.Test.YthmockfeffikjaaJS1
namespace Go.Proofs.Ythmockfeffikjaa
open Go.RowKit
attribute [local go_sem] Oper.semAt_some
attribute [local go_sem] wide_fnM wide_depthM

set_option maxRecDepth 100000 in
set_option maxHeartbeats 4000000 in
theorem picks0_no (w : World) (z : SetR) (hz : z.ok w) (hf : fewS z.zs z.work z.ps = false) :
    Calls Try.prog 7 #[.agg z.cells.toArray] w fun e w' => e = .returned (.bool true) ∧ Below w.heap.size w w' := by
  have HLV := hid live_any
  have HB0 : Hid (Below w.heap.size w ((w.alloc (.cells #[.slice z.cp z.zs.length z.cc, .slice z.wp z.work.length z.wc, .slice z.kp z.ps.length z.kc] 28)).alloc (.cells #[.bool false] 4))) := ((Below.refl _ _).alloc (Nat.le_refl _) _).alloc (by simp) _
  have HQ0 := hid (q0_new w z)
  have HFW := hid (fun w1 (hb : Below w.heap.size w w1) => few_at (hz.below hb))
  rw [hf] at HFW
  rw [z.cells_eq] at HFW ⊢
  clear hz hf
  change Calls Try.prog 7 #[.agg #[.slice z.cp z.zs.length z.cc, .slice z.wp z.work.length z.wc, .slice z.kp z.ps.length z.kc]] w _
  go_enter Try.func7, Try.ntmps7
  go_wp2_with (first
    | (go_at_call 9; refine (HLV.out _).mono ?_; rintro e w1 ⟨rfl, hb1⟩; have HB1 := hid hb1; have HQ1 := hid (HQ0.out.below hb1); obtain ⟨x0, x1, x2, x3, x4, x5⟩ := HQ1.out.facts; clear hb1)
    | (go_at_call 13; refine (HFW.out _ (HB0.out.trans (HB1.out.mono HB0.out.size))).mono ?_; rintro e w2 ⟨rfl, hb2⟩; have HQ2 := hid (HQ1.out.below hb2); have HB2 := hid (below_tr hb2 HB1.out (Nat.le_refl _)); obtain ⟨g0, g1, g2, g3, g4, g5⟩ := HQ2.out.facts; clear hb2))
  have c1 : (w2.setCell ⟨w.heap.size + 1, 0, none⟩ (.bool true)).cell? ⟨w.heap.size + 1, 0, none⟩ = some (.bool true) := World.cell?_setCell_same _ _ _ g3
  exact bodyPost_ret (v := .bool true) (by simp [results, Try.results7, go_sem, c1]) rfl ⟨rfl, (HB0.out.trans (HB2.out.mono HB0.out.size)).setCell (show w.heap.size ≤ w.heap.size + 1 by omega) _⟩
set_option maxRecDepth 100000 in
set_option maxHeartbeats 4000000 in
theorem picks0_bad (w : World) (z : SetR) (hz : z.ok w) (hf : fewS z.zs z.work z.ps = true) (hn : nlE (z.zs.map CeR.x) z.work ≠ 0) :
    Calls Try.prog 7 #[.agg z.cells.toArray] w fun e w' => e = .returned (.bool true) ∧ Below w.heap.size w w' := by
  have HLV := hid live_any
  have HB0 : Hid (Below w.heap.size w ((w.alloc (.cells #[.slice z.cp z.zs.length z.cc, .slice z.wp z.work.length z.wc, .slice z.kp z.ps.length z.kc] 28)).alloc (.cells #[.bool false] 4))) := ((Below.refl _ _).alloc (Nat.le_refl _) _).alloc (by simp) _
  have HQ0 := hid (q0_new w z)
  have HFW := hid (fun w1 (hb : Below w.heap.size w w1) => few_at (hz.below hb))
  have HBO := hid (fun w1 (hb : Below w.heap.size w w1) => both_at hz hb)
  have HNE := hid hn
  rw [hf] at HFW
  rw [z.cells_eq] at HFW HBO ⊢
  unfold BothTell at HBO
  clear hz hf hn
  change Calls Try.prog 7 #[.agg #[.slice z.cp z.zs.length z.cc, .slice z.wp z.work.length z.wc, .slice z.kp z.ps.length z.kc]] w _
  go_enter Try.func7, Try.ntmps7
  go_wp2_with (first
    | (go_at_call 9; refine (HLV.out _).mono ?_; rintro e w1 ⟨rfl, hb1⟩; have HB1 := hid hb1; have HQ1 := hid (HQ0.out.below hb1); obtain ⟨x0, x1, x2, x3, x4, x5⟩ := HQ1.out.facts; clear hb1)
    | (go_at_call 13; refine (HFW.out _ (HB0.out.trans (HB1.out.mono HB0.out.size))).mono ?_; rintro e w2 ⟨rfl, hb2⟩; have HQ2 := hid (HQ1.out.below hb2); have HB2 := hid (below_tr hb2 HB1.out (Nat.le_refl _)); obtain ⟨g0, g1, g2, g3, g4, g5⟩ := HQ2.out.facts; clear hb2)
    | (go_at_call 14; refine (HBO.out _ (HB0.out.trans (HB2.out.mono HB0.out.size))).mono ?_; rintro e w3 hbt; have hbt2 := hbt.resolve_right (fun h => HNE.out h.1); obtain ⟨_, rfl, hb3⟩ := hbt2; have HQ3 := hid ((HQ2.out.below hb3).below ((Below.refl _ _).alloc (Nat.le_refl _) (.cells #[.pointer none] 46))); have HB3 := hid (below_tr hb3 HB2.out (Nat.le_refl _)); obtain ⟨r0, r1, r2, r3, r4, r5⟩ := HQ3.out.facts; clear hbt hb3))
  obtain ⟨w4, hw4⟩ : ∃ w4, w4 = w3.alloc (.cells #[.pointer none] 46) := ⟨_, rfl⟩
  have hb4 : Below w.heap.size w w4 := by rw [hw4]; exact (HB0.out.trans (HB3.out.mono HB0.out.size)).alloc (by have := HB0.out.size; have := HB3.out.size; omega) _
  rw [← hw4] at r3 ⊢
  have c1 : (w4.setCell ⟨w.heap.size + 1, 0, none⟩ (.bool true)).cell? ⟨w.heap.size + 1, 0, none⟩ = some (.bool true) := World.cell?_setCell_same _ _ _ r3
  exact bodyPost_ret (v := .bool true) (by simp [results, Try.results7, go_sem, c1]) rfl ⟨rfl, hb4.setCell (show w.heap.size ≤ w.heap.size + 1 by omega) _⟩
set_option maxRecDepth 100000 in
set_option maxHeartbeats 8000000 in
theorem picks_core (w : World) (cp : Option Addr) (cc nz : Nat) (wp : Option Addr) (wc : Nat) (work : List (List Ac)) (kp : Option Addr) (kc : Nat) (ps : List Int) (cs : List Ce)
    (hfw : ∀ w1, Below w.heap.size w w1 → Calls Try.prog 13 #[.agg #[.slice cp nz cc, .slice wp work.length wc, .slice kp ps.length kc]] w1 fun e w' => e = .returned (.bool true) ∧ Below w1.heap.size w1 w')
    (hbo : ∀ w1, Below w.heap.size w w1 → Calls Try.prog 14 #[.agg #[.slice cp nz cc, .slice wp work.length wc, .slice kp ps.length kc]] w1 (BothTell w w1 cs work))
    (hkc : ps.length ≤ kc ∧ kc ≤ maxLen) (hkr : Row w kp (ints64 ps)) (hp : ps.length ≤ 2000) (hn : nlE cs work = 0) :
    Calls Try.prog 7 #[.agg #[.slice cp nz cc, .slice wp work.length wc, .slice kp ps.length kc]] w fun e w' => e = .returned (.bool true) ∧ Below w.heap.size w w' := by
  have HLV := hid live_any
  have HFW := hid hfw
  have HBO := hid hbo
  have HKR := hid hkr
  have HNE := hid hn
  have hnf : ∀ (w : World) (a : Addr), (binOp .eql 55 (.func (.func 40) #[] #[.pointer (some a)]) .nilFunc).run Try.prog w = .ok (.bool false) w := fun w a => by kernel_rfl
  obtain ⟨w0, hw0⟩ : ∃ w0, w0 = (w.alloc (.cells #[.slice cp nz cc, .slice wp work.length wc, .slice kp ps.length kc] 28)).alloc (.cells #[.bool false] 4) := ⟨_, rfl⟩
  have HB0 : Hid (Below w.heap.size w w0) := by rw [hw0]; exact ((Below.refl _ _).alloc (Nat.le_refl _) _).alloc (by simp) _
  have HX0 : Hid (w0.heap[w.heap.size]? = some (.cells #[.slice cp nz cc, .slice wp work.length wc, .slice kp ps.length kc] 28 (0, 0))) := by
    rw [hw0]; exact (Below.heap_alloc _ _ _ (by simp)).trans (heap_alloc_new w _)
  have HY0 : Hid (w0.heap[w.heap.size + 1]? = some (.cells #[.bool false] 4 (0, 0))) := by
    rw [hw0]
    have := heap_alloc_new (w.alloc (.cells #[.slice cp nz cc, .slice wp work.length wc, .slice kp ps.length kc] 28)) (.cells #[.bool false] 4 (0, 0))
    rw [World.size_alloc] at this; exact this
  have hz0 : w0.heap.size = w.heap.size + 2 := by rw [hw0]; simp
  have HW0 := hid hw0
  obtain ⟨S0, hS0⟩ : ∃ S0, S0 = nl0 cs work := ⟨_, rfl⟩
  have HSW : Hid (S0.work = work) := by rw [hS0]; rfl
  have HKB : Hid (ps ≠ [] → ∀ q, kp = some q → q.block < w.heap.size) := fun hne => row_lt hkr (by simpa [ints64] using hne)
  unfold BothTell at HBO
  rw [← hS0] at HBO
  clear hfw hbo hkr hn hS0 hw0
  refine callsIn_wide.1 (?_ : CallsIn Fence.wide 5 Try.prog 7 #[.agg #[.slice cp nz cc, .slice wp work.length wc, .slice kp ps.length kc]] w _)
  refine callsIn_of_wp_marks Try.func7 rfl (show Fence.wide.fn 7 from trivial) ?_ rfl
  simp only [Try.ntmps7, List.size_toArray, List.length_cons, List.length_nil, Nat.reduceAdd, Nat.reduceSub, Array.replicate_succ, Array.replicate_zero, List.push_toArray, List.append_toArray, List.nil_append, List.cons_append]
  have hw0' := HW0.out
  gi_wp2_with (first
    | (gi_at_call 9; rw [← hw0']; refine (callsIn_wide.2 (HLV.out _)).mono ?_; rintro e w1 ⟨rfl, hb1⟩; have HB1 := hid (HB0.out.trans (hb1.mono HB0.out.size)); have HX1 := hid ((hb1.block _ (by omega)).trans HX0.out); have HY1 := hid ((hb1.block _ (by omega)).trans HY0.out); obtain ⟨x0, x1, x2, x3⟩ := box3 HX1.out; clear hb1)
    | (gi_at_call 13; refine (callsIn_wide.2 (HFW.out _ HB1.out)).mono ?_; rintro e w2 ⟨rfl, hb2⟩; have HX2 := hid ((hb2.block _ x3).trans HX1.out); have y4 : w.heap.size + 1 < w1.heap.size := (Array.getElem?_eq_some_iff.1 HY1.out).1; have HY2 := hid ((hb2.block _ y4).trans HY1.out); have HB2 := hid (below_tr hb2 HB1.out (Nat.le_refl _)); obtain ⟨y0, y1, y2, y3⟩ := box3 HX2.out; clear hb2)
    | (gi_at_call 14; refine (callsIn_wide.2 (HBO.out _ HB2.out)).mono ?_; rintro e w3 hbt; have hbt2 := hbt.resolve_left (fun h => h.1 HNE.out); obtain ⟨_, L, R, fc, fw, fcr, B, M, rfl, hlm, hBB, hff, hrm, hrf, hMM, hb3⟩ := hbt2; have HX3 := hid ((hb3.block _ y3).trans HX2.out); have y5 : w.heap.size + 1 < w2.heap.size := (Array.getElem?_eq_some_iff.1 HY2.out).1; have HY3 := hid ((hb3.block _ y5).trans HY2.out); have HB3 := hid (below_tr hb3 HB2.out (Nat.le_refl _)); have HLM := hid hlm; have HFF := hid hff; have HRM := hid hrm; have HRF := hid hrf; obtain ⟨z0, z1, z2, z3⟩ := box3 HX3.out; clear hbt hb3 hlm hff hrm hrf))
  case inl =>
    refine (?_ : ∀ m : Nat, m ≤ ps.length → Code.wpIn Fence.wide 5 Try.prog _ _ { tmps := #[.agg #[.slice cp nz cc, .slice wp work.length wc, .slice kp ps.length kc], .pointer (some ⟨w.heap.size, 0, none⟩), .pointer (some ⟨w.heap.size + 1, 0, none⟩), .pointer (some ⟨L, 0, none⟩), .pointer (some ⟨w3.heap.size, 0, none⟩), .bool true, undef, undef, undef, undef, undef, undef, undef, undef, .bool true, .bool false, .agg #[.slice cp nz cc, .slice wp work.length wc, .slice kp ps.length kc], .bool true, .bool false, .tuple #[.pointer (some ⟨L, 0, none⟩), .pointer (some ⟨R, 0, none⟩), .bool true], .agg #[.slice cp nz cc, .slice wp work.length wc, .slice kp ps.length kc], .tuple #[.pointer (some ⟨L, 0, none⟩), .pointer (some ⟨R, 0, none⟩), .bool true], .pointer (some ⟨L, 0, none⟩), .pointer (some ⟨R, 0, none⟩), .bool true, .bool true, .bool false, .bool false, .pointer (some ⟨R, 0, none⟩), .bool false, .bool false, undef, .pointer (some ⟨w.heap.size, 2, none⟩), .slice kp ps.length kc, .pointer (some ⟨w.heap.size, 2, none⟩), .slice kp ps.length kc, .int .i64 (ps.length : Int), .int .i64 (m : Int), .slice kp m kc, .int .i64 (m : Int), .int .i64 0, undef, undef, undef, undef, undef, undef, undef, undef, undef, undef, undef, undef, undef, undef, undef, undef, undef, undef, undef, undef, undef, undef, undef, undef, undef, undef, undef, undef, undef, undef, undef, undef, undef, undef, undef, undef, undef, undef, undef, undef, undef, undef, undef, undef, undef, undef, undef, undef, undef, undef, undef, undef, undef, undef, undef, undef], defers := [] } _) 300 (by omega)
    intro m hm
    clear x0 x1 x2 x3 y0 y1 y2 y3 z0 z1 z2 y4 hw0'
    have hR := HRM.out.r1.1
    have hMR : M ≤ R := HRF.out R (.inr rfl)
    have hw2 := HB2.out.size
    obtain ⟨w4, hw4⟩ : ∃ w4, w4 = w3.alloc (.cells #[.pointer (some ⟨R, 0, none⟩)] 46) := ⟨_, rfl⟩
    rw [← hw4]
    have hb34 : Below w3.heap.size w3 w4 := by rw [hw4]; exact (Below.refl _ _).alloc (Nat.le_refl _) _
    have hz3 : w2.heap.size ≤ w3.heap.size := by have := HRM.out.lt R (.inr (.inr rfl)); omega
    have hz4 : w3.heap.size ≤ w4.heap.size := hb34.size
    have hA4 : w4.heap[w3.heap.size]? = some (.cells #[.pointer (some ⟨R, 0, none⟩)] 46 (0, 0)) := by rw [hw4]; exact heap_alloc_new _ _
    have HPI0 : Hid (PI w4 w2.heap.size w3.heap.size M B L R fw (fun k => k < w.heap.size ∨ k = R) S0 S0 [] (fun k => k = w3.heap.size) w4) := by
      refine ⟨⟨fc, fcr, HLM.out.below hb34, HRM.out.below hb34, fun k h h2 => ?_, fun k h h2 => ?_, fun k h => ?_⟩, ⟨rfl, rfl, rfl, Nat.le_refl _, fun _ _ _ => rfl⟩, hA4, ⟨List.nodup_nil, fun k h => (by cases h)⟩, fun k h => (by cases h), rfl, fun k h => (by have := (Array.getElem?_eq_some_iff.1 hA4).1; omega), (by omega)⟩
      · have := HFF.out k h; have := HRF.out k (.inl h2); omega
      · have h3 := HFF.out k (.inl h2)
        rcases h with h | h | h
        · have := HRF.out k (.inl h); omega
        · omega
        · omega
      · rcases h with h | h
        · have h3 := HFF.out k (.inl h); have := HLM.out.lt k (.inl h); exact ⟨by omega, by omega⟩
        · have h3 := HRF.out k (.inl h); have := HRM.out.lt k (.inl h); exact ⟨by omega, by omega⟩
    have HX4 : Hid (w4.heap[w.heap.size]? = some (.cells #[.slice cp nz cc, .slice wp work.length wc, .slice kp ps.length kc] 28 (0, 0))) := (hb34.block _ z3).trans HX3.out
    have HY4 : Hid (w4.heap[w.heap.size + 1]? = some (.cells #[.bool false] 4 (0, 0))) := (hb34.block _ (by omega)).trans HY3.out
    have HB4 : Hid (Below w.heap.size w w4) := HB3.out.trans (hb34.mono (by omega))
    have HKA := hid (HKR.out.below HB4.out)
    clear hA4 hb34 hw4
    refine wpIn_loop (fun a' w' => ∃ (ds : List Deferred) (u7 u8 u9 u10 u11 u12 u13 u40 u41 u42 u43 u44 u45 u46 u47 u48 u49 u50 u51 u52 u53 u54 u55 u56 u57 u58 u59 u60 u61 u62 u63 u64 u65 u66 u67 u68 u69 u70 u71 u72 u73 u74 u75 u76 u77 u78 u79 u80 u81 u82 u83 u84 u85 u86 u87 u88 u89 u90 u91 u92 u93 : Value), (∃ (j : Nat) (ks : List Nat) (Pr : Nat → Prop), j ≤ m ∧ u40 = .int .i64 j ∧ ds = ks.map markD ∧ PI w4 w2.heap.size w3.heap.size M B L R fw (fun k => k < w.heap.size ∨ k = R) (S0.all (ps.take j)) (S0.all (ps.take j)) ks Pr w') ∧ a' = { tmps := #[.agg #[.slice cp nz cc, .slice wp work.length wc, .slice kp ps.length kc], .pointer (some ⟨w.heap.size, 0, none⟩), .pointer (some ⟨w.heap.size + 1, 0, none⟩), .pointer (some ⟨L, 0, none⟩), .pointer (some ⟨w3.heap.size, 0, none⟩), .bool true, undef, u7, u8, u9, u10, u11, u12, u13, .bool true, .bool false, .agg #[.slice cp nz cc, .slice wp work.length wc, .slice kp ps.length kc], .bool true, .bool false, .tuple #[.pointer (some ⟨L, 0, none⟩), .pointer (some ⟨R, 0, none⟩), .bool true], .agg #[.slice cp nz cc, .slice wp work.length wc, .slice kp ps.length kc], .tuple #[.pointer (some ⟨L, 0, none⟩), .pointer (some ⟨R, 0, none⟩), .bool true], .pointer (some ⟨L, 0, none⟩), .pointer (some ⟨R, 0, none⟩), .bool true, .bool true, .bool false, .bool false, .pointer (some ⟨R, 0, none⟩), .bool false, .bool false, undef, .pointer (some ⟨w.heap.size, 2, none⟩), .slice kp ps.length kc, .pointer (some ⟨w.heap.size, 2, none⟩), .slice kp ps.length kc, .int .i64 (ps.length : Int), .int .i64 (m : Int), .slice kp m kc, .int .i64 (m : Int), u40, u41, u42, u43, u44, u45, u46, u47, u48, u49, u50, u51, u52, u53, u54, u55, u56, u57, u58, u59, u60, u61, u62, u63, u64, u65, u66, u67, u68, u69, u70, u71, u72, u73, u74, u75, u76, u77, u78, u79, u80, u81, u82, u83, u84, u85, u86, u87, u88, u89, u90, u91, u92, u93, undef, undef, undef], defers := ds }) (fun a' _ => m - (intOf (a'.tmps.getD 40 undef)).toNat) ?atSA ?rndA
    case atSA =>
      repeat apply Exists.intro
      refine ⟨?_, rfl⟩
      exact ⟨0, [], _, Nat.zero_le _, rfl, rfl, HPI0.out⟩
    case rndA =>
      intro _ wr hinv
      obtain ⟨ds, u7, u8, u9, u10, u11, u12, u13, u40, u41, u42, u43, u44, u45, u46, u47, u48, u49, u50, u51, u52, u53, u54, u55, u56, u57, u58, u59, u60, u61, u62, u63, u64, u65, u66, u67, u68, u69, u70, u71, u72, u73, u74, u75, u76, u77, u78, u79, u80, u81, u82, u83, u84, u85, u86, u87, u88, u89, u90, u91, u92, u93, hrel, ha⟩ := hinv
      subst ha
      try dsimp only
      obtain ⟨j, ks, Pr, hj, rfl, rfl, hpi⟩ := hrel
      have HPI := hid hpi
      clear HPI0
      obtain ⟨S, hS⟩ : ∃ S, S = S0.all (ps.take j) := ⟨_, rfl⟩
      rw [← hS] at HPI
      by_cases hlt : j < m
      · have hltI : (j : Int) < m := by omega
        have hltp : j < ps.length := by omega
        have HSN := hid (all_take S0 ps j hltp)
        rw [← hS] at HSN
        have hrow := HKA.out.turned hpi.t (fun hne q e h => by have h1 := HKB.out (by simpa [ints64] using hne) q e; have h : w2.heap.size ≤ q.block := h; omega)
        obtain ⟨b, o, hkp, hbz, hcc⟩ := hrow.at (by simp [ints64]; omega)
        have hcj := hcc j (by simp [ints64]; omega)
        simp only [ints64, List.getElem_map] at hcj
        rw [hkp]
        obtain ⟨p, hpj⟩ : ∃ p, p = ps[j] := ⟨_, rfl⟩
        rw [← hpj] at hcj HSN
        have HEN := hid HPI.out.enab
        have ha4 : wr.cell? ⟨w3.heap.size, 0, none⟩ = some (.pointer (some ⟨R, 0, none⟩)) := cell_of_row _ _ 0 _ _ _ hpi.a4
        have ha4l := hpi.a4l
        unfold EnTell mi at HEN
        clear hpi hrow hcc hpj hS
        gi_wp2_with (gi_at_call 19; refine (callsIn_wide.2 HEN.out).mono ?_; rintro e w7 ⟨rfl, v7, he7⟩; have HE7 := hid he7; have HP7 := hid (HPI.out.below he7.b); clear he7)
        obtain ⟨w8, hw8⟩ : ∃ w8, w8 = (w7.alloc (.cells #[i64 (-1)] 3)).alloc (.cells #[i64 0] 3) := ⟨_, rfl⟩
        rw [← hw8]
        have hb78 : Below w7.heap.size w7 w8 := by rw [hw8]; exact ((Below.refl _ _).alloc (Nat.le_refl _) _).alloc (by simp) _
        have hz8 : w8.heap.size = w7.heap.size + 2 := by rw [hw8]; simp
        have h9 : w8.heap[w7.heap.size]? = some (intB (-1)) := by rw [hw8]; exact (Below.heap_alloc _ _ _ (by simp)).trans (heap_alloc_new w7 _)
        have h10 : w8.heap[w7.heap.size + 1]? = some (intB 0) := by
          rw [hw8]
          have := heap_alloc_new (w7.alloc (.cells #[i64 (-1)] 3)) (.cells #[i64 0] 3 (0, 0))
          rw [World.size_alloc] at this; exact this
        have hz7 : wr.heap.size < w7.heap.size := (Array.getElem?_eq_some_iff.1 HE7.out.h).1
        have hh8 : w8.heap[wr.heap.size]? = some (intL v7) := (hb78.block _ hz7).trans HE7.out.h
        have ho8 := own_below HE7.out.o hb78
        have hvl : ∀ k, v7.ownBlock = some k → k < w7.heap.size := fun k hk => own_lt HE7.out.o k hk
        obtain ⟨hR7, ⟨wp7, wc7, hr7⟩, hw64⟩ := HP7.out.r1
        have hel := enab_len hw64
        have hseq := enab1_seq (w := w8) (b := wr.heap.size) (l := S.enab) (v := v7) 4 (by omega) hh8 ho8 (by omega)
        have HL0 : Hid (∀ r : Loop, EL w7 [] (fun k => k = wr.heap.size ∨ v7.ownBlock = some k) (w8.heap.size + 2) ((w8.alloc (.deferred (some []))).alloc (.loop r))) := fun r => by
          have hb : Below w8.heap.size w8 ((w8.alloc (.deferred (some []))).alloc (.loop r)) := ((Below.refl _ _).alloc (Nat.le_refl _) _).alloc (by simp) _
          refine ⟨hb78.trans (hb.mono (by omega)), (hb.block _ (by omega)).trans h9, (hb.block _ (by omega)).trans h10, fun h => ?_, fun h => ?_, by omega, by simp⟩
          · rcases h with h | h
            · omega
            · have := hvl _ h; omega
          · rcases h with h | h
            · omega
            · have := hvl _ h; omega
        clear hw8 h9 h10 hh8 ho8
        refine wpIn_rangeFunc_V rfl (by omega) (gf := 40) (lb := #[.pointer (some ⟨wr.heap.size, 0, none⟩)]) rfl trivial (enters_of Try.func40 (by kernel_rfl) rfl) hseq (Below.refl _ _) (fun _ => rfl)
          (fun k hk => by
            rcases hk with h | h
            · omega
            · have := hvl k h; omega)
          (fun W W' h k o hk _ _ => (h.block k (Array.getElem?_eq_some_iff.1 hk).1).trans hk)
          (fun _ _ _ _ _ _ _ h _ => h)
          (fun pre T hs W => EL w7 pre T hs W) (fun _ _ _ => False) (fun _ _ _ W W' h hst => h.later hst) (fun _ _ _ _ h _ => h)
          (fun _ _ _ W r o h hl => by have := h.putObj o; rw [hz8]; exact this) (fun _ _ _ _ _ h _ => h) HL0.out ?actaA ?assignaA ?bodyaA ?doneaA ?stopaA
        case assignaA =>
          intro l x W K hK
          gi_wp2
          exact hK
        case stopaA => rintro c pre W _ h _; exact h.elim
        case bodyaA =>
          rintro l pre T hs x W hel2 ⟨suf, hsuf⟩ hh1 hh2 hT
          obtain ⟨e1, e2, e3, e4⟩ := enab_pre hsuf
          obtain ⟨c9, c10, ⟨f9, f10⟩, hzx⟩ := hel2.cells
          have HEL := hid hel2
          have hzx0 : w7.heap.size < W.heap.size := by omega
          have HPW := hid (HP7.out.below hel2.b)
          have HCN := hid (HPW.out.can x)
          rw [e2] at HCN
          have hleI : ¬ (x ≤ lastOf pre) := by omega
          have hled : decide (x ≤ lastOf pre) = false := decide_eq_false hleI
          have hr4 : W.cell? ⟨w3.heap.size, 0, none⟩ = some (.pointer (some ⟨R, 0, none⟩)) := cell_of_row _ _ 0 _ _ _ HPW.out.a4
          have hr4l := HPW.out.a4l
          generalize lastOf pre = lp at *
          clear hel2 hseq hsuf
          gi_wp2_with (gi_at_call 15; go_loud (refine ((callsIn_wide.2 HCN.out).inRound l).mono ?_; rintro e w9 ⟨rfl, hb9⟩; have HB9 := hid hb9; have g9 := (hb9.cell (p := ⟨w7.heap.size, 0, none⟩) hzx0).trans c9; have g10 := (hb9.cell (p := ⟨w7.heap.size + 1, 0, none⟩) hzx).trans c10; have k9 := (hb9.frozen (p := ⟨w7.heap.size, 0, none⟩) hzx0).trans f9; have k10 := (hb9.frozen (p := ⟨w7.heap.size + 1, 0, none⟩) hzx).trans f10; have hzy : w7.heap.size + 1 < w9.heap.size := (by have := hb9.size; omega); clear hb9))
          have h := HEL.out.next HB9.out x _ rfl
          rw [← hz8] at h
          exact h
        case doneaA =>
          rintro xs T hs W1 hxs hI hD
          obtain rfl : xs = S.enab := hxs
          have hbI := hI.b
          obtain ⟨_, c10, ⟨_, f10⟩, hzx⟩ := hI.cells
          have HN1 := hid hI.n
          have HP1 := hid (HP7.out.mark (D := w8.heap.size) (X := w7.heap.size + 1) hI.b (by omega) ⟨by omega, hzx⟩ hD)
          have hr4 : W1.cell? ⟨w3.heap.size, 0, none⟩ = some (.pointer (some ⟨R, 0, none⟩)) := cell_of_row _ _ 0 _ _ _ HP1.out.a4
          have hr4l := HP1.out.a4l
          obtain ⟨hR1, _, _⟩ := HP1.out.r1
          have hr1 := (hbI.cell (p := ⟨R, 0 + 1, none⟩) hR7).trans hr7
          simp only [Nat.zero_add] at hr1
          have HZ8 := hid hz8
          clear hI hD hseq hbI hz8
          gi_wp2_with fail
          have HSX := hid (show PS (w7.heap.size + 1) w3.heap.size R (S.enab.length : Int) W1 from ⟨HN1.out, HP1.out.a4⟩)
          obtain ⟨wb, hwb⟩ : ∃ wb, wb = W1 := ⟨_, rfl⟩
          rw [← hwb] at HP1 HSX ⊢
          rw [← hwb] at hr1 hR1
          have HR1 := hid (And.intro hR1 hr1)
          clear hr4 hr4l c10 f10 hzx HN1 hr1 hR1 hwb
          gi_loopw [12, 68] (fun cn i wx => ∃ k : Nat, k ≤ S.work.length ∧ i = .int .i64 k ∧ cn = .int .i64 ((S.enabTo k).length : Nat) ∧ Below wb.heap.size wb wx) (fun _ i _ => S.work.length - (intOf i).toNat)
          case atStart => exact ⟨0, Nat.zero_le _, rfl, rfl, Below.refl _ _⟩
          case round =>
            obtain ⟨k, hk, rfl, rfl, hb⟩ := hrel
            have HBK := hid hb
            have HPK := hid (HP1.out.below hb)
            have HSK := hid (HSX.out.below hb)
            have q4 : wr.cell? ⟨w3.heap.size, 0, none⟩ = some (.pointer (some ⟨R, 0, none⟩)) := cell_of_row _ _ 0 _ _ _ HSK.out.h4
            have q4l := HPK.out.a4l
            clear hb
            by_cases hlt2 : k < S.work.length
            · have hlt2I : (k : Int) < S.work.length := by omega
              have HCN := hid (HPK.out.can k)
              have hkl : (S.enabTo k).length ≤ 64 := by
                unfold SL.enabTo
                rw [List.length_map]
                exact Nat.le_trans (List.length_filter_le _ _) (by simp; omega)
              cases hc : S.canN k
              · rw [hc] at HCN
                have HE := hid (enab_no hc)
                clear hc
                gi_wp2_with (gi_at_call 15; go_loud (refine (callsIn_wide.2 HCN.out).mono ?_; rintro e w9 ⟨rfl, hb9⟩; have HB9 := hid hb9; clear hb9))
                go_roundw
                case rel => exact ⟨k + 1, by omega, by go_num, by rw [HE.out], below_tr HB9.out HBK.out (Nat.le_refl _)⟩
                case measure => simp [intOf]; omega
              · rw [hc] at HCN
                have HE := hid (enab_yes hc)
                clear hc
                generalize S.enabTo k = ek at *
                gi_wp2_with (gi_at_call 15; go_loud (refine (callsIn_wide.2 HCN.out).mono ?_; rintro e w9 ⟨rfl, hb9⟩; have HB9 := hid hb9; clear hb9))
                go_roundw
                case rel => exact ⟨k + 1, by omega, by go_num, by rw [HE.out, List.length_append, List.length_singleton]; go_num, below_tr HB9.out HBK.out (Nat.le_refl _)⟩
                case measure => simp [intOf]; omega
            · have hlt2I : ¬ ((k : Int) < S.work.length) := by omega
              obtain rfl : k = S.work.length := by omega
              have hel3 : S.enabTo S.work.length = S.enab := rfl
              rw [hel3]
              have HPIC := hid ((HPK.out.below (Below.refl _ _).drew).pick p)
              have HPX : Hid (∀ wx, PI w4 w2.heap.size w3.heap.size M B L R fw (fun k => k < w.heap.size ∨ k = R) (S.stepN p) S (w8.heap.size :: ks) (fun k => Pr k ∨ k = w8.heap.size ∨ k = w7.heap.size + 1) wx → Calls Try.prog 15 #[.pointer (some ⟨R, 0, none⟩), i64 p] wx fun e w' => e = .returned (.bool (S.canN p)) ∧ Below wx.heap.size wx w') := fun wx h => h.can p
              have HKS := hid (fun (wx : World) (hk : ∀ k, (Pr k ∨ k = w8.heap.size ∨ k = w7.heap.size + 1) → wx.heap[k]? = wr.drew.heap[k]?) => (hk (w7.heap.size + 1) (.inr (.inr rfl))).trans HSK.out.hX)
              unfold mi at HPIC
              generalize S.canN p = cb at HPIC HPX
              have hne : ((S.enab.length : Int) != (S.enab.length : Int)) = false := by simp
              have hcb : (cb != cb) = false := by simp
              have fX : ∀ w', PS (w7.heap.size + 1) w3.heap.size R (S.enab.length : Int) w' → w'.cell? ⟨w7.heap.size + 1, 0, none⟩ = some (i64 (S.enab.length : Int)) := fun w' h => cell_of_row _ _ 0 _ _ _ h.hX
              have f4 : ∀ w', PS (w7.heap.size + 1) w3.heap.size R (S.enab.length : Int) w' → w'.cell? ⟨w3.heap.size, 0, none⟩ = some (.pointer (some ⟨R, 0, none⟩)) := fun w' h => cell_of_row _ _ 0 _ _ _ h.h4
              generalize S.enab.length = el at *
              have hS0 := HSK.out
              have hS1 := HSK.out.drew
              refine wpIn_wide.2 ?_
              go_upto_region 28 with (fail)
              refine wpIn_wide.2 ?_
              go_upto_region 28 with (fail)
              go_region_held3 (fun w' => PS (w7.heap.size + 1) w3.heap.size R (el : Int) w') (with_reducible assumption)
                (first
                  | (go_at_call 23; go_loud ((with_reducible refine HPIC.out.mono ?_); rintro e w10 ⟨rfl, hpi10, hkeep⟩; have hq10 : PS (w7.heap.size + 1) w3.heap.size R (el : Int) w10 := ⟨HKS.out _ hkeep, hpi10.a4⟩; have HP10 := hid hpi10; clear hpi10 hkeep))
                  | (go_at_call 15; go_loud ((with_reducible refine (HPX.out _ HP10.out).mono ?_); rintro e w11 ⟨rfl, hb11⟩; have hq11 := PS.below (by assumption) hb11; have HP11 := hid (HP10.out.below hb11); clear hb11)))
              have HST := hid (HP11.out.step p)
              have r4 : w11.cell? ⟨w3.heap.size, 0, none⟩ = some (.pointer (some ⟨R, 0, none⟩)) := cell_of_row _ _ 0 _ _ _ HP11.out.a4
              clear fX f4 hS0 hS1 hq10 hq11
              go_wp2_with (go_at_call 16; go_loud ((with_reducible refine HST.out.mono ?_); rintro e w12 ⟨rfl, hpi12⟩; have HP12 := hid hpi12; clear hpi12))
              gi_wp2
              refine ⟨⟨(w8.heap.size :: ks).map markD, ?_⟩, ?meaA⟩
              · repeat apply Exists.intro
                refine ⟨?_, rfl⟩
                exact ⟨j + 1, w8.heap.size :: ks, _, by omega, by go_num, rfl, by rw [HSN.out]; exact HP12.out⟩
              case meaA => simp [intOf]; omega
      · have hltI : ¬ ((j : Int) < m) := by omega
        have HSA := hid HPI.out.same
        have q4 : wr.cell? ⟨w3.heap.size, 0, none⟩ = some (.pointer (some ⟨R, 0, none⟩)) := cell_of_row _ _ 0 _ _ _ hpi.a4
        have hw24 : w2.heap.size ≤ w4.heap.size := by omega
        clear hpi hS
        gi_wp2_with (gi_at_call 21; go_loud (refine (callsIn_wide.2 HSA.out).mono ?_; rintro e w9 ⟨rfl, hb9⟩; have HP9 := hid (HPI.out.below hb9); have y9 : w9.heap[w.heap.size + 1]? = some (.cells #[.bool false] 4 (0, 0)) := (HP9.out.t.block _ (by omega) (show ¬ w2.heap.size ≤ w.heap.size + 1 by omega)).trans HY4.out; have c9 : w9.cell? ⟨w.heap.size + 1, 0, none⟩ = some (.bool false) := cell_of_row _ _ 0 _ _ _ y9; have f9 : w9.frozen? ⟨w.heap.size + 1, 0, none⟩ = false := frozen_of_row _ _ _ _ _ y9; clear hb9 y9))
        have hB9 : Below w.heap.size w w9 := ⟨HP9.out.t.os.trans HB4.out.os, HP9.out.t.tape.trans HB4.out.tape, HP9.out.t.output.trans HB4.out.output, Nat.le_trans HB4.out.size HP9.out.t.size, fun k hk => (HP9.out.t.block k (by omega) (show ¬ w2.heap.size ≤ k by omega)).trans (HB4.out.block k hk)⟩
        have hBS := hB9.setCell (show w.heap.size ≤ (⟨w.heap.size + 1, 0, none⟩ : Addr).block from Nat.le_succ _) (.bool true)
        change LeavesInM _ _ _ _ _ _ (ks.map markD) .returning _
        refine leaves_marks ks _ ⟨HP9.out.mks.1, fun k hk => ?_⟩ (fun w' ht => ?_)
        · have h := (HP9.out.kl k hk).1
          exact (Below.heap_setCell _ _ _ _ (show k ≠ w.heap.size + 1 by omega)).trans (HP9.out.mks.2 k hk)
        · have hcell : w'.cell? ⟨w.heap.size + 1, 0, none⟩ = some (.bool true) := (World.cell?_of_block (a := ⟨w.heap.size + 1, 0, none⟩) (ht.same _ (fun h => by have h : w2.heap.size ≤ w.heap.size + 1 := (HP9.out.kl _ h).1; omega))).trans (World.cell?_setCell_same _ _ _ c9)
          exact ⟨.bool true, by simp [results, Try.results7, go_sem, hcell], rfl, ⟨ht.os.trans hBS.os, ht.tape.trans hBS.tape, ht.output.trans hBS.output, by rw [ht.size]; exact hBS.size, fun k hk => (ht.same k (fun h => by have := (HP9.out.kl _ h).1; omega)).trans (hBS.block k hk)⟩⟩
  case inr =>
    refine (?_ : ∀ m : Nat, m ≤ ps.length → Code.wpIn Fence.wide 5 Try.prog _ _ { tmps := #[.agg #[.slice cp nz cc, .slice wp work.length wc, .slice kp ps.length kc], .pointer (some ⟨w.heap.size, 0, none⟩), .pointer (some ⟨w.heap.size + 1, 0, none⟩), .pointer (some ⟨L, 0, none⟩), .pointer (some ⟨w3.heap.size, 0, none⟩), .bool true, undef, undef, undef, undef, undef, undef, undef, undef, .bool true, .bool false, .agg #[.slice cp nz cc, .slice wp work.length wc, .slice kp ps.length kc], .bool true, .bool false, .tuple #[.pointer (some ⟨L, 0, none⟩), .pointer (some ⟨R, 0, none⟩), .bool true], .agg #[.slice cp nz cc, .slice wp work.length wc, .slice kp ps.length kc], .tuple #[.pointer (some ⟨L, 0, none⟩), .pointer (some ⟨R, 0, none⟩), .bool true], .pointer (some ⟨L, 0, none⟩), .pointer (some ⟨R, 0, none⟩), .bool true, .bool true, .bool false, .bool false, .pointer (some ⟨R, 0, none⟩), .bool false, .bool false, undef, .pointer (some ⟨w.heap.size, 2, none⟩), .slice kp ps.length kc, .pointer (some ⟨w.heap.size, 2, none⟩), .slice kp ps.length kc, .int .i64 (ps.length : Int), .int .i64 (m : Int), .slice kp m kc, .int .i64 (m : Int), .int .i64 0, undef, undef, undef, undef, undef, undef, undef, undef, undef, undef, undef, undef, undef, undef, undef, undef, undef, undef, undef, undef, undef, undef, undef, undef, undef, undef, undef, undef, undef, undef, undef, undef, undef, undef, undef, undef, undef, undef, undef, undef, undef, undef, undef, undef, undef, undef, undef, undef, undef, undef, undef, undef, undef, undef, undef, undef], defers := [] } _) ps.length (Nat.le_refl _)
    intro m hm
    clear x0 x1 x2 x3 y0 y1 y2 y3 z0 z1 z2 y4 hw0'
    have hR := HRM.out.r1.1
    have hMR : M ≤ R := HRF.out R (.inr rfl)
    have hw2 := HB2.out.size
    obtain ⟨w4, hw4⟩ : ∃ w4, w4 = w3.alloc (.cells #[.pointer (some ⟨R, 0, none⟩)] 46) := ⟨_, rfl⟩
    rw [← hw4]
    have hb34 : Below w3.heap.size w3 w4 := by rw [hw4]; exact (Below.refl _ _).alloc (Nat.le_refl _) _
    have hz3 : w2.heap.size ≤ w3.heap.size := by have := HRM.out.lt R (.inr (.inr rfl)); omega
    have hz4 : w3.heap.size ≤ w4.heap.size := hb34.size
    have hA4 : w4.heap[w3.heap.size]? = some (.cells #[.pointer (some ⟨R, 0, none⟩)] 46 (0, 0)) := by rw [hw4]; exact heap_alloc_new _ _
    have HPI0 : Hid (PI w4 w2.heap.size w3.heap.size M B L R fw (fun k => k < w.heap.size ∨ k = R) S0 S0 [] (fun k => k = w3.heap.size) w4) := by
      refine ⟨⟨fc, fcr, HLM.out.below hb34, HRM.out.below hb34, fun k h h2 => ?_, fun k h h2 => ?_, fun k h => ?_⟩, ⟨rfl, rfl, rfl, Nat.le_refl _, fun _ _ _ => rfl⟩, hA4, ⟨List.nodup_nil, fun k h => (by cases h)⟩, fun k h => (by cases h), rfl, fun k h => (by have := (Array.getElem?_eq_some_iff.1 hA4).1; omega), (by omega)⟩
      · have := HFF.out k h; have := HRF.out k (.inl h2); omega
      · have h3 := HFF.out k (.inl h2)
        rcases h with h | h | h
        · have := HRF.out k (.inl h); omega
        · omega
        · omega
      · rcases h with h | h
        · have h3 := HFF.out k (.inl h); have := HLM.out.lt k (.inl h); exact ⟨by omega, by omega⟩
        · have h3 := HRF.out k (.inl h); have := HRM.out.lt k (.inl h); exact ⟨by omega, by omega⟩
    have HX4 : Hid (w4.heap[w.heap.size]? = some (.cells #[.slice cp nz cc, .slice wp work.length wc, .slice kp ps.length kc] 28 (0, 0))) := (hb34.block _ z3).trans HX3.out
    have HY4 : Hid (w4.heap[w.heap.size + 1]? = some (.cells #[.bool false] 4 (0, 0))) := (hb34.block _ (by omega)).trans HY3.out
    have HB4 : Hid (Below w.heap.size w w4) := HB3.out.trans (hb34.mono (by omega))
    have HKA := hid (HKR.out.below HB4.out)
    clear hA4 hb34 hw4
    refine wpIn_loop (fun a' w' => ∃ (ds : List Deferred) (u7 u8 u9 u10 u11 u12 u13 u40 u41 u42 u43 u44 u45 u46 u47 u48 u49 u50 u51 u52 u53 u54 u55 u56 u57 u58 u59 u60 u61 u62 u63 u64 u65 u66 u67 u68 u69 u70 u71 u72 u73 u74 u75 u76 u77 u78 u79 u80 u81 u82 u83 u84 u85 u86 u87 u88 u89 u90 u91 u92 u93 : Value), (∃ (j : Nat) (ks : List Nat) (Pr : Nat → Prop), j ≤ m ∧ u40 = .int .i64 j ∧ ds = ks.map markD ∧ PI w4 w2.heap.size w3.heap.size M B L R fw (fun k => k < w.heap.size ∨ k = R) (S0.all (ps.take j)) (S0.all (ps.take j)) ks Pr w') ∧ a' = { tmps := #[.agg #[.slice cp nz cc, .slice wp work.length wc, .slice kp ps.length kc], .pointer (some ⟨w.heap.size, 0, none⟩), .pointer (some ⟨w.heap.size + 1, 0, none⟩), .pointer (some ⟨L, 0, none⟩), .pointer (some ⟨w3.heap.size, 0, none⟩), .bool true, undef, u7, u8, u9, u10, u11, u12, u13, .bool true, .bool false, .agg #[.slice cp nz cc, .slice wp work.length wc, .slice kp ps.length kc], .bool true, .bool false, .tuple #[.pointer (some ⟨L, 0, none⟩), .pointer (some ⟨R, 0, none⟩), .bool true], .agg #[.slice cp nz cc, .slice wp work.length wc, .slice kp ps.length kc], .tuple #[.pointer (some ⟨L, 0, none⟩), .pointer (some ⟨R, 0, none⟩), .bool true], .pointer (some ⟨L, 0, none⟩), .pointer (some ⟨R, 0, none⟩), .bool true, .bool true, .bool false, .bool false, .pointer (some ⟨R, 0, none⟩), .bool false, .bool false, undef, .pointer (some ⟨w.heap.size, 2, none⟩), .slice kp ps.length kc, .pointer (some ⟨w.heap.size, 2, none⟩), .slice kp ps.length kc, .int .i64 (ps.length : Int), .int .i64 (m : Int), .slice kp m kc, .int .i64 (m : Int), u40, u41, u42, u43, u44, u45, u46, u47, u48, u49, u50, u51, u52, u53, u54, u55, u56, u57, u58, u59, u60, u61, u62, u63, u64, u65, u66, u67, u68, u69, u70, u71, u72, u73, u74, u75, u76, u77, u78, u79, u80, u81, u82, u83, u84, u85, u86, u87, u88, u89, u90, u91, u92, u93, undef, undef, undef], defers := ds }) (fun a' _ => m - (intOf (a'.tmps.getD 40 undef)).toNat) ?atSB ?rndB
    case atSB =>
      repeat apply Exists.intro
      refine ⟨?_, rfl⟩
      exact ⟨0, [], _, Nat.zero_le _, rfl, rfl, HPI0.out⟩
    case rndB =>
      intro _ wr hinv
      obtain ⟨ds, u7, u8, u9, u10, u11, u12, u13, u40, u41, u42, u43, u44, u45, u46, u47, u48, u49, u50, u51, u52, u53, u54, u55, u56, u57, u58, u59, u60, u61, u62, u63, u64, u65, u66, u67, u68, u69, u70, u71, u72, u73, u74, u75, u76, u77, u78, u79, u80, u81, u82, u83, u84, u85, u86, u87, u88, u89, u90, u91, u92, u93, hrel, ha⟩ := hinv
      subst ha
      try dsimp only
      obtain ⟨j, ks, Pr, hj, rfl, rfl, hpi⟩ := hrel
      have HPI := hid hpi
      clear HPI0
      obtain ⟨S, hS⟩ : ∃ S, S = S0.all (ps.take j) := ⟨_, rfl⟩
      rw [← hS] at HPI
      by_cases hlt : j < m
      · have hltI : (j : Int) < m := by omega
        have hltp : j < ps.length := by omega
        have HSN := hid (all_take S0 ps j hltp)
        rw [← hS] at HSN
        have hrow := HKA.out.turned hpi.t (fun hne q e h => by have h1 := HKB.out (by simpa [ints64] using hne) q e; have h : w2.heap.size ≤ q.block := h; omega)
        obtain ⟨b, o, hkp, hbz, hcc⟩ := hrow.at (by simp [ints64]; omega)
        have hcj := hcc j (by simp [ints64]; omega)
        simp only [ints64, List.getElem_map] at hcj
        rw [hkp]
        obtain ⟨p, hpj⟩ : ∃ p, p = ps[j] := ⟨_, rfl⟩
        rw [← hpj] at hcj HSN
        have HEN := hid HPI.out.enab
        have ha4 : wr.cell? ⟨w3.heap.size, 0, none⟩ = some (.pointer (some ⟨R, 0, none⟩)) := cell_of_row _ _ 0 _ _ _ hpi.a4
        have ha4l := hpi.a4l
        unfold EnTell mi at HEN
        clear hpi hrow hcc hpj hS
        gi_wp2_with (gi_at_call 19; refine (callsIn_wide.2 HEN.out).mono ?_; rintro e w7 ⟨rfl, v7, he7⟩; have HE7 := hid he7; have HP7 := hid (HPI.out.below he7.b); clear he7)
        obtain ⟨w8, hw8⟩ : ∃ w8, w8 = (w7.alloc (.cells #[i64 (-1)] 3)).alloc (.cells #[i64 0] 3) := ⟨_, rfl⟩
        rw [← hw8]
        have hb78 : Below w7.heap.size w7 w8 := by rw [hw8]; exact ((Below.refl _ _).alloc (Nat.le_refl _) _).alloc (by simp) _
        have hz8 : w8.heap.size = w7.heap.size + 2 := by rw [hw8]; simp
        have h9 : w8.heap[w7.heap.size]? = some (intB (-1)) := by rw [hw8]; exact (Below.heap_alloc _ _ _ (by simp)).trans (heap_alloc_new w7 _)
        have h10 : w8.heap[w7.heap.size + 1]? = some (intB 0) := by
          rw [hw8]
          have := heap_alloc_new (w7.alloc (.cells #[i64 (-1)] 3)) (.cells #[i64 0] 3 (0, 0))
          rw [World.size_alloc] at this; exact this
        have hz7 : wr.heap.size < w7.heap.size := (Array.getElem?_eq_some_iff.1 HE7.out.h).1
        have hh8 : w8.heap[wr.heap.size]? = some (intL v7) := (hb78.block _ hz7).trans HE7.out.h
        have ho8 := own_below HE7.out.o hb78
        have hvl : ∀ k, v7.ownBlock = some k → k < w7.heap.size := fun k hk => own_lt HE7.out.o k hk
        obtain ⟨hR7, ⟨wp7, wc7, hr7⟩, hw64⟩ := HP7.out.r1
        have hel := enab_len hw64
        have hseq := enab1_seq (w := w8) (b := wr.heap.size) (l := S.enab) (v := v7) 4 (by omega) hh8 ho8 (by omega)
        have HL0 : Hid (∀ r : Loop, EL w7 [] (fun k => k = wr.heap.size ∨ v7.ownBlock = some k) (w8.heap.size + 2) ((w8.alloc (.deferred (some []))).alloc (.loop r))) := fun r => by
          have hb : Below w8.heap.size w8 ((w8.alloc (.deferred (some []))).alloc (.loop r)) := ((Below.refl _ _).alloc (Nat.le_refl _) _).alloc (by simp) _
          refine ⟨hb78.trans (hb.mono (by omega)), (hb.block _ (by omega)).trans h9, (hb.block _ (by omega)).trans h10, fun h => ?_, fun h => ?_, by omega, by simp⟩
          · rcases h with h | h
            · omega
            · have := hvl _ h; omega
          · rcases h with h | h
            · omega
            · have := hvl _ h; omega
        clear hw8 h9 h10 hh8 ho8
        refine wpIn_rangeFunc_V rfl (by omega) (gf := 40) (lb := #[.pointer (some ⟨wr.heap.size, 0, none⟩)]) rfl trivial (enters_of Try.func40 (by kernel_rfl) rfl) hseq (Below.refl _ _) (fun _ => rfl)
          (fun k hk => by
            rcases hk with h | h
            · omega
            · have := hvl k h; omega)
          (fun W W' h k o hk _ _ => (h.block k (Array.getElem?_eq_some_iff.1 hk).1).trans hk)
          (fun _ _ _ _ _ _ _ h _ => h)
          (fun pre T hs W => EL w7 pre T hs W) (fun _ _ _ => False) (fun _ _ _ W W' h hst => h.later hst) (fun _ _ _ _ h _ => h)
          (fun _ _ _ W r o h hl => by have := h.putObj o; rw [hz8]; exact this) (fun _ _ _ _ _ h _ => h) HL0.out ?actaB ?assignaB ?bodyaB ?doneaB ?stopaB
        case assignaB =>
          intro l x W K hK
          gi_wp2
          exact hK
        case stopaB => rintro c pre W _ h _; exact h.elim
        case bodyaB =>
          rintro l pre T hs x W hel2 ⟨suf, hsuf⟩ hh1 hh2 hT
          obtain ⟨e1, e2, e3, e4⟩ := enab_pre hsuf
          obtain ⟨c9, c10, ⟨f9, f10⟩, hzx⟩ := hel2.cells
          have HEL := hid hel2
          have hzx0 : w7.heap.size < W.heap.size := by omega
          have HPW := hid (HP7.out.below hel2.b)
          have HCN := hid (HPW.out.can x)
          rw [e2] at HCN
          have hleI : ¬ (x ≤ lastOf pre) := by omega
          have hled : decide (x ≤ lastOf pre) = false := decide_eq_false hleI
          have hr4 : W.cell? ⟨w3.heap.size, 0, none⟩ = some (.pointer (some ⟨R, 0, none⟩)) := cell_of_row _ _ 0 _ _ _ HPW.out.a4
          have hr4l := HPW.out.a4l
          generalize lastOf pre = lp at *
          clear hel2 hseq hsuf
          gi_wp2_with (gi_at_call 15; go_loud (refine ((callsIn_wide.2 HCN.out).inRound l).mono ?_; rintro e w9 ⟨rfl, hb9⟩; have HB9 := hid hb9; have g9 := (hb9.cell (p := ⟨w7.heap.size, 0, none⟩) hzx0).trans c9; have g10 := (hb9.cell (p := ⟨w7.heap.size + 1, 0, none⟩) hzx).trans c10; have k9 := (hb9.frozen (p := ⟨w7.heap.size, 0, none⟩) hzx0).trans f9; have k10 := (hb9.frozen (p := ⟨w7.heap.size + 1, 0, none⟩) hzx).trans f10; have hzy : w7.heap.size + 1 < w9.heap.size := (by have := hb9.size; omega); clear hb9))
          have h := HEL.out.next HB9.out x _ rfl
          rw [← hz8] at h
          exact h
        case doneaB =>
          rintro xs T hs W1 hxs hI hD
          obtain rfl : xs = S.enab := hxs
          have hbI := hI.b
          obtain ⟨_, c10, ⟨_, f10⟩, hzx⟩ := hI.cells
          have HN1 := hid hI.n
          have HP1 := hid (HP7.out.mark (D := w8.heap.size) (X := w7.heap.size + 1) hI.b (by omega) ⟨by omega, hzx⟩ hD)
          have hr4 : W1.cell? ⟨w3.heap.size, 0, none⟩ = some (.pointer (some ⟨R, 0, none⟩)) := cell_of_row _ _ 0 _ _ _ HP1.out.a4
          have hr4l := HP1.out.a4l
          obtain ⟨hR1, _, _⟩ := HP1.out.r1
          have hr1 := (hbI.cell (p := ⟨R, 0 + 1, none⟩) hR7).trans hr7
          simp only [Nat.zero_add] at hr1
          have HZ8 := hid hz8
          clear hI hD hseq hbI hz8
          gi_wp2_with fail
          have HSX := hid (show PS (w7.heap.size + 1) w3.heap.size R (S.enab.length : Int) W1 from ⟨HN1.out, HP1.out.a4⟩)
          obtain ⟨wb, hwb⟩ : ∃ wb, wb = W1 := ⟨_, rfl⟩
          rw [← hwb] at HP1 HSX ⊢
          rw [← hwb] at hr1 hR1
          have HR1 := hid (And.intro hR1 hr1)
          clear hr4 hr4l c10 f10 hzx HN1 hr1 hR1 hwb
          gi_loopw [12, 68] (fun cn i wx => ∃ k : Nat, k ≤ S.work.length ∧ i = .int .i64 k ∧ cn = .int .i64 ((S.enabTo k).length : Nat) ∧ Below wb.heap.size wb wx) (fun _ i _ => S.work.length - (intOf i).toNat)
          case atStart => exact ⟨0, Nat.zero_le _, rfl, rfl, Below.refl _ _⟩
          case round =>
            obtain ⟨k, hk, rfl, rfl, hb⟩ := hrel
            have HBK := hid hb
            have HPK := hid (HP1.out.below hb)
            have HSK := hid (HSX.out.below hb)
            have q4 : wr.cell? ⟨w3.heap.size, 0, none⟩ = some (.pointer (some ⟨R, 0, none⟩)) := cell_of_row _ _ 0 _ _ _ HSK.out.h4
            have q4l := HPK.out.a4l
            clear hb
            by_cases hlt2 : k < S.work.length
            · have hlt2I : (k : Int) < S.work.length := by omega
              have HCN := hid (HPK.out.can k)
              have hkl : (S.enabTo k).length ≤ 64 := by
                unfold SL.enabTo
                rw [List.length_map]
                exact Nat.le_trans (List.length_filter_le _ _) (by simp; omega)
              cases hc : S.canN k
              · rw [hc] at HCN
                have HE := hid (enab_no hc)
                clear hc
                gi_wp2_with (gi_at_call 15; go_loud (refine (callsIn_wide.2 HCN.out).mono ?_; rintro e w9 ⟨rfl, hb9⟩; have HB9 := hid hb9; clear hb9))
                go_roundw
                case rel => exact ⟨k + 1, by omega, by go_num, by rw [HE.out], below_tr HB9.out HBK.out (Nat.le_refl _)⟩
                case measure => simp [intOf]; omega
              · rw [hc] at HCN
                have HE := hid (enab_yes hc)
                clear hc
                generalize S.enabTo k = ek at *
                gi_wp2_with (gi_at_call 15; go_loud (refine (callsIn_wide.2 HCN.out).mono ?_; rintro e w9 ⟨rfl, hb9⟩; have HB9 := hid hb9; clear hb9))
                go_roundw
                case rel => exact ⟨k + 1, by omega, by go_num, by rw [HE.out, List.length_append, List.length_singleton]; go_num, below_tr HB9.out HBK.out (Nat.le_refl _)⟩
                case measure => simp [intOf]; omega
            · have hlt2I : ¬ ((k : Int) < S.work.length) := by omega
              obtain rfl : k = S.work.length := by omega
              have hel3 : S.enabTo S.work.length = S.enab := rfl
              rw [hel3]
              have HPIC := hid ((HPK.out.below (Below.refl _ _).drew).pick p)
              have HPX : Hid (∀ wx, PI w4 w2.heap.size w3.heap.size M B L R fw (fun k => k < w.heap.size ∨ k = R) (S.stepN p) S (w8.heap.size :: ks) (fun k => Pr k ∨ k = w8.heap.size ∨ k = w7.heap.size + 1) wx → Calls Try.prog 15 #[.pointer (some ⟨R, 0, none⟩), i64 p] wx fun e w' => e = .returned (.bool (S.canN p)) ∧ Below wx.heap.size wx w') := fun wx h => h.can p
              have HKS := hid (fun (wx : World) (hk : ∀ k, (Pr k ∨ k = w8.heap.size ∨ k = w7.heap.size + 1) → wx.heap[k]? = wr.drew.heap[k]?) => (hk (w7.heap.size + 1) (.inr (.inr rfl))).trans HSK.out.hX)
              unfold mi at HPIC
              generalize S.canN p = cb at HPIC HPX
              have hne : ((S.enab.length : Int) != (S.enab.length : Int)) = false := by simp
              have hcb : (cb != cb) = false := by simp
              have fX : ∀ w', PS (w7.heap.size + 1) w3.heap.size R (S.enab.length : Int) w' → w'.cell? ⟨w7.heap.size + 1, 0, none⟩ = some (i64 (S.enab.length : Int)) := fun w' h => cell_of_row _ _ 0 _ _ _ h.hX
              have f4 : ∀ w', PS (w7.heap.size + 1) w3.heap.size R (S.enab.length : Int) w' → w'.cell? ⟨w3.heap.size, 0, none⟩ = some (.pointer (some ⟨R, 0, none⟩)) := fun w' h => cell_of_row _ _ 0 _ _ _ h.h4
              generalize S.enab.length = el at *
              have hS0 := HSK.out
              have hS1 := HSK.out.drew
              refine wpIn_wide.2 ?_
              go_upto_region 28 with (fail)
              refine wpIn_wide.2 ?_
              go_upto_region 28 with (fail)
              go_region_held3 (fun w' => PS (w7.heap.size + 1) w3.heap.size R (el : Int) w') (with_reducible assumption)
                (first
                  | (go_at_call 23; go_loud ((with_reducible refine HPIC.out.mono ?_); rintro e w10 ⟨rfl, hpi10, hkeep⟩; have hq10 : PS (w7.heap.size + 1) w3.heap.size R (el : Int) w10 := ⟨HKS.out _ hkeep, hpi10.a4⟩; have HP10 := hid hpi10; clear hpi10 hkeep))
                  | (go_at_call 15; go_loud ((with_reducible refine (HPX.out _ HP10.out).mono ?_); rintro e w11 ⟨rfl, hb11⟩; have hq11 := PS.below (by assumption) hb11; have HP11 := hid (HP10.out.below hb11); clear hb11)))
              have HST := hid (HP11.out.step p)
              have r4 : w11.cell? ⟨w3.heap.size, 0, none⟩ = some (.pointer (some ⟨R, 0, none⟩)) := cell_of_row _ _ 0 _ _ _ HP11.out.a4
              clear fX f4 hS0 hS1 hq10 hq11
              go_wp2_with (go_at_call 16; go_loud ((with_reducible refine HST.out.mono ?_); rintro e w12 ⟨rfl, hpi12⟩; have HP12 := hid hpi12; clear hpi12))
              gi_wp2
              refine ⟨⟨(w8.heap.size :: ks).map markD, ?_⟩, ?meaB⟩
              · repeat apply Exists.intro
                refine ⟨?_, rfl⟩
                exact ⟨j + 1, w8.heap.size :: ks, _, by omega, by go_num, rfl, by rw [HSN.out]; exact HP12.out⟩
              case meaB => simp [intOf]; omega
      · have hltI : ¬ ((j : Int) < m) := by omega
        have HSA := hid HPI.out.same
        have q4 : wr.cell? ⟨w3.heap.size, 0, none⟩ = some (.pointer (some ⟨R, 0, none⟩)) := cell_of_row _ _ 0 _ _ _ hpi.a4
        have hw24 : w2.heap.size ≤ w4.heap.size := by omega
        clear hpi hS
        gi_wp2_with (gi_at_call 21; go_loud (refine (callsIn_wide.2 HSA.out).mono ?_; rintro e w9 ⟨rfl, hb9⟩; have HP9 := hid (HPI.out.below hb9); have y9 : w9.heap[w.heap.size + 1]? = some (.cells #[.bool false] 4 (0, 0)) := (HP9.out.t.block _ (by omega) (show ¬ w2.heap.size ≤ w.heap.size + 1 by omega)).trans HY4.out; have c9 : w9.cell? ⟨w.heap.size + 1, 0, none⟩ = some (.bool false) := cell_of_row _ _ 0 _ _ _ y9; have f9 : w9.frozen? ⟨w.heap.size + 1, 0, none⟩ = false := frozen_of_row _ _ _ _ _ y9; clear hb9 y9))
        have hB9 : Below w.heap.size w w9 := ⟨HP9.out.t.os.trans HB4.out.os, HP9.out.t.tape.trans HB4.out.tape, HP9.out.t.output.trans HB4.out.output, Nat.le_trans HB4.out.size HP9.out.t.size, fun k hk => (HP9.out.t.block k (by omega) (show ¬ w2.heap.size ≤ k by omega)).trans (HB4.out.block k hk)⟩
        have hBS := hB9.setCell (show w.heap.size ≤ (⟨w.heap.size + 1, 0, none⟩ : Addr).block from Nat.le_succ _) (.bool true)
        change LeavesInM _ _ _ _ _ _ (ks.map markD) .returning _
        refine leaves_marks ks _ ⟨HP9.out.mks.1, fun k hk => ?_⟩ (fun w' ht => ?_)
        · have h := (HP9.out.kl k hk).1
          exact (Below.heap_setCell _ _ _ _ (show k ≠ w.heap.size + 1 by omega)).trans (HP9.out.mks.2 k hk)
        · have hcell : w'.cell? ⟨w.heap.size + 1, 0, none⟩ = some (.bool true) := (World.cell?_of_block (a := ⟨w.heap.size + 1, 0, none⟩) (ht.same _ (fun h => by have h : w2.heap.size ≤ w.heap.size + 1 := (HP9.out.kl _ h).1; omega))).trans (World.cell?_setCell_same _ _ _ c9)
          exact ⟨.bool true, by simp [results, Try.results7, go_sem, hcell], rfl, ⟨ht.os.trans hBS.os, ht.tape.trans hBS.tape, ht.output.trans hBS.output, by rw [ht.size]; exact hBS.size, fun k hk => (ht.same k (fun h => by have := (HP9.out.kl _ h).1; omega)).trans (hBS.block k hk)⟩⟩
theorem picks_walk (w : World) (z : SetR) (hz : z.ok w) :
    Calls Try.prog 7 #[.agg z.cells.toArray] w fun e w' => e = .returned (.bool true) ∧ Below w.heap.size w w' := by
  cases hf : fewS z.zs z.work z.ps
  · exact picks0_no w z hz hf
  · by_cases hn : nlE (z.zs.map CeR.x) z.work = 0
    · have hfw := fun w1 (hb : Below w.heap.size w w1) => few_at (hz.below hb)
      have hbo := fun w1 (hb : Below w.heap.size w w1) => both_at hz hb
      rw [z.cells_eq] at hfw hbo ⊢
      rw [hf] at hfw
      exact picks_core w z.cp z.cc z.zs.length z.wp z.wc z.work z.kp z.kc z.ps (z.zs.map CeR.x) hfw hbo ⟨hz.k.1, hz.k.2.1⟩ hz.k.2.2.2.1 (fewS_ps hf) hn
    · exact picks0_bad w z hz hf hn
end Go.Proofs.Ythmockfeffikjaa
