/-
  The walk of SchedStuck at a machine that was made, where there is room for all its steps.
  A setup as it comes in, and how many accesses it holds: no more than its bulk.
-/
import Derived.Test.YthmockfeffikjaaJS1
import Derived.Test.YthmockfeffikjaaJS0
namespace Go.Proofs.Ythmockfeffikjaa
open Go.RowKit
attribute [local go_sem] Oper.semAt_some
attribute [local go_sem] wide_fnM wide_depthM

theorem Q0.belowB {A B : Nat} {z : SetR} {w w' : World} (h : Q0 A z w) (hb : Below B w w') (hB : A + 1 < B) : Q0 A z w' := ⟨(hb.block _ (by omega)).trans h.a, (hb.block _ hB).trans h.b⟩
set_option maxRecDepth 100000 in
set_option maxHeartbeats 8000000 in
theorem stuck_core (w : World) (z : SetR) (hz : z.ok w) (hf : fewS z.zs z.work z.ps = true) (hn : nlE (z.zs.map CeR.x) z.work = 0) (htot : totW z.work ≤ 1099511627776) :
    Calls Try.prog 5 #[.agg z.cells.toArray] w fun e w' => e = .returned (.bool true) ∧ Below w.heap.size w w' := by
  have HLV := hid live_any
  have hnf : ∀ (w : World) (a : Addr), (binOp .eql 55 (.func (.func 40) #[] #[.pointer (some a)]) .nilFunc).run Try.prog w = .ok (.bool false) w := fun w a => by kernel_rfl
  have HB0 : Hid (Below w.heap.size w ((w.alloc (.cells #[.slice z.cp z.zs.length z.cc, .slice z.wp z.work.length z.wc, .slice z.kp z.ps.length z.kc] 28)).alloc (.cells #[.bool false] 4))) := ((Below.refl _ _).alloc (Nat.le_refl _) _).alloc (by simp) _
  have HQ0 := hid (q0_new w z)
  have HFW := hid (fun w1 (hb : Below w.heap.size w w1) => few_at (hz.below hb))
  have HNL := hid (fun w1 (hb : Below w.heap.size w w1) => newlists_at (hz.below hb))
  have HNE := hid hn
  have hpl : z.ps.length ≤ 2000 := by
    unfold fewS at hf
    simp at hf
    omega
  have hw64 : 1 ≤ z.work.length ∧ z.work.length ≤ 64 := by
    unfold nlE at hn
    by_cases h : newE (z.zs.map CeR.x) = 0
    · rw [if_neg (by omega)] at hn
      by_cases h2 : z.work.length < 1 ∨ 64 < z.work.length
      · rw [if_pos h2] at hn; cases hn
      · omega
    · rw [if_pos h] at hn; exact absurd hn h
  have hwent := run_went (nl0 (z.zs.map CeR.x) z.work) z.ps 1099511627776 (by omega) (by omega) (by omega) (nl0_len _ _) (by rw [nl0_left]; omega)
  have HRU := hid (fun (W : World) (base L : Nat) (fc fw : Nat → Prop) (H : LM W base L (nl0 (z.zs.map CeR.x) z.work) fc fw) (hr : Row W z.kp (ints64 z.ps)) (hk : z.ps ≠ [] → ∀ q, z.kp = some q → ¬ fc q.block) => run_any (most := 1099511627776) H z.ps z.kp z.kc hz.k.1 hz.k.2.1 hr hk (by omega) (by omega) (by omega))
  have HKR := hid hz.k.2.2.2.1
  rw [nl0_told] at hwent
  unfold RunTell at HRU
  generalize (nl0 (z.zs.map CeR.x) z.work).run z.ps 1099511627776 = T at hwent HRU
  obtain ⟨S', ⟨p, s, t⟩, c⟩ := T
  obtain ⟨g1, g2, g3, g4, g5, g6, g7⟩ := hwent
  dsimp only at g1 g2 g3 g4 g5 g6 g7 HRU
  have g1 : S'.work = z.work := g1
  have hsn : (S'.sumA z.work.length : Int) = p + t := by
    have h := sumA_told g2
    rw [g1] at h
    rw [h]; omega
  have HSL : Hid (∀ k, k ≤ z.work.length → (S'.sumA k : Int) ≤ 1099511627776) := fun k hk => by
    have h := sumA_le g2 k (by rw [g1]; exact hk)
    have h2 := sumA_told g2
    rw [nl0_left] at g4
    have h3 : (S'.sumA k : Int) ≤ S'.told := by omega
    omega
  have HSN := hid hsn
  have HG6 := hid g6
  have HG1 := hid g1
  rw [hf] at HFW
  rw [z.cells_eq] at HFW ⊢
  unfold NLTell at HNL
  have hpb : Hid (∀ q, z.kp = some q → z.ps ≠ [] → q.block < w.heap.size) := fun q e hne => by
    obtain ⟨b, o, e2, hcc⟩ := HKR.out (by simpa using hne)
    rw [e] at e2; injection e2 with e2
    rw [e2]
    exact World.block_lt_of_cell? w _ (hcc 0 (by simpa using List.length_pos_iff.2 hne))
  clear hz hf hn hsn g1 g2 g3 g4 g5 g6
  change Calls Try.prog 5 #[.agg #[.slice z.cp z.zs.length z.cc, .slice z.wp z.work.length z.wc, .slice z.kp z.ps.length z.kc]] w _
  refine callsIn_wide.1 (?_ : CallsIn Fence.wide 5 Try.prog 5 #[.agg #[.slice z.cp z.zs.length z.cc, .slice z.wp z.work.length z.wc, .slice z.kp z.ps.length z.kc]] w _)
  refine callsIn_of_wp_marks Try.func5 rfl (show Fence.wide.fn 5 from trivial) ?_ rfl
  simp only [Try.ntmps5, List.size_toArray, List.length_cons, List.length_nil, Nat.reduceAdd, Nat.reduceSub, Array.replicate_succ, Array.replicate_zero, List.push_toArray, List.append_toArray, List.nil_append, List.cons_append]
  unfold mi at HRU
  gi_wp2_with (first
    | (gi_at_call 9; refine (callsIn_wide.2 (HLV.out _)).mono ?_; rintro e w1 ⟨rfl, hb1⟩; have HB1 := hid hb1; have HQ1 := hid (HQ0.out.below hb1); obtain ⟨x0, x1, x2, x3, x4, x5⟩ := HQ1.out.facts; clear hb1)
    | (gi_at_call 13; refine (callsIn_wide.2 (HFW.out _ (HB0.out.trans (HB1.out.mono HB0.out.size)))).mono ?_; rintro e w2 ⟨rfl, hb2⟩; have HQ2 := hid (HQ1.out.below hb2); have HB2 := hid (below_tr hb2 HB1.out (Nat.le_refl _)); have HW2 := hid (HB0.out.trans (HB2.out.mono HB0.out.size)); obtain ⟨g0, g1, g2, g3, g4, g5⟩ := HQ2.out.facts; clear hb2)
    | (gi_at_call 10; refine (callsIn_wide.2 (HNL.out _ HW2.out)).mono ?_; rintro e w3 hnt; have hnt2 := hnt.resolve_right (fun h => h.1 HNE.out); obtain ⟨_, L, fc, fw, rfl, hlm3, hff3, hb3⟩ := hnt2; have HL3 := hid hlm3; have HF3 := hid hff3; have HQ3 := hid (HQ2.out.below hb3); have HW3 := hid (HW2.out.trans (hb3.mono HW2.out.size)); have HRN := hid (HRU.out w3 w2.heap.size L fc fw hlm3 (HKR.out.below HW3.out) (fun hne q e hq => by have h1 := hpb.out q e hne; have h2 := hff3 _ (.inl hq); have h3 := HW2.out.size; omega)); obtain ⟨i0, i1, i2, i3, i4, i5⟩ := HQ3.out.facts; clear hnt hb3 hlm3 hff3)
    | (gi_at_call 11; refine (callsIn_wide.2 HRN.out).mono ?_; rintro e w4 ⟨rfl, fc4, hlm4, hff4, ht4, hb4⟩; have HL4 := hid hlm4; have HT4 := hid ht4; have HB4 := hid hb4; have HQ4 := hid (HQ3.out.belowB hb4 g5); obtain ⟨j0, j1, j2, j3, j4, j5⟩ := HQ4.out.facts; have hl4 : w.heap.size < w4.heap.size := (by omega); clear hlm4 hff4 ht4 hb4))
  obtain ⟨w5, hw5⟩ : ∃ x, x = w4.alloc (.cells #[i64 p, i64 s, i64 t] 40) := ⟨_, rfl⟩
  rw [← hw5]
  have hb45 : Below w4.heap.size w4 w5 := by rw [hw5]; exact (Below.refl _ _).alloc (Nat.le_refl _) _
  have HR5 : Hid (w5.heap[w4.heap.size]? = some (.cells #[i64 p, i64 s, i64 t] 40 (0, 0))) := by rw [hw5]; exact heap_alloc_new _ _
  have HL5 := hid (HL4.out.below hb45)
  have HQ5 := hid (HQ4.out.below hb45)
  have HW5 : Hid (Below w.heap.size w w5) := (HW3.out.trans (HB4.out.mono HW2.out.size)).trans (hb45.mono (by have := j5; omega))
  clear hw5 hb45 x0 x1 x2 x3 x4 x5 g0 g1 g2 g3 g4 i0 i1 i2 i3 i4 i5 j0 j1 j2 j3 j4
  gi_loopw [6, 41] (fun n i wr => ∃ k : Nat, k ≤ z.work.length ∧ i = .int .i64 k ∧ n = .int .i64 (S'.sumA k) ∧ Below w5.heap.size w5 wr) (fun _ i _ => z.work.length - (intOf i).toNat)
  case atStart => exact ⟨0, Nat.zero_le _, rfl, rfl, Below.refl _ _⟩
  case round =>
    obtain ⟨k, hk, rfl, rfl, hb⟩ := hrel
    have HBK := hid hb
    have hsk := HSL.out k hk
    by_cases hlt : k < z.work.length
    · have hltI : (k : Int) < z.work.length := by omega
      have hsk1 := HSL.out (k + 1) hlt
      rw [sumA_succ] at hsk1
      have HSA := hid (sumA_succ (S := S') k)
      have HAN := hid (lanswers_any (HL5.out.below hb) k)
      unfold AnTell at HAN
      generalize (S'.ans (k : Int)).length = na at *
      generalize S'.ans (k : Int) = l at *
      obtain ⟨SA, hSA⟩ : ∃ SA, SA = S'.sumA k := ⟨_, rfl⟩
      rw [← hSA] at hsk hsk1 HSA ⊢
      clear hb
      gi_wp2_with (gi_at_call 18; refine (callsIn_wide.2 HAN.out).mono ?_; rintro e w6 ⟨p6, c6, rfl, _, hb6⟩; have HB6 := hid (below_tr hb6 HBK.out (Nat.le_refl _)); clear hb6)
      go_roundw
      case rel => exact ⟨k + 1, by omega, by go_num, by rw [HSA.out]; go_num, HB6.out⟩
      case measure => simp [intOf]; omega
    · have hkl : k = z.work.length := by omega
      subst hkl
      have hr : wr.heap[w4.heap.size]? = some (.cells #[i64 p, i64 s, i64 t] 40 (0, 0)) := (hb.block _ (Array.getElem?_eq_some_iff.1 HR5.out).1).trans HR5.out
      have r0 : wr.cell? ⟨w4.heap.size, 0, none⟩ = some (i64 p) := cell_of_row _ _ 0 _ _ _ hr
      have r2 : wr.cell? ⟨w4.heap.size, 2, none⟩ = some (i64 t) := cell_of_row _ _ 2 _ _ _ hr
      have HFN := hid (fun w' (hb2 : Below wr.heap.size wr w') => fin_any ((HL5.out.below hb).below hb2))
      have HEN := hid (enab_any (HL5.out.below hb))
      rw [HG6.out] at HEN
      unfold EnTell at HEN
      unfold mi at HFN HEN
      have hsn := HSN.out
      rw [hsn] at hsk ⊢
      have hpt0 : 0 ≤ p + t := by omega
      have HQR := hid (HQ5.out.below hb)
      clear hr hb
      gi_wp2_with (gi_at_call 19; refine (callsIn_wide.2 HEN.out).mono ?_; rintro e w7 ⟨rfl, v7, he7⟩; have HE7 := hid he7; clear he7)
      have hh7 := HE7.out.h
      have ho7 := HE7.out.o
      have hz7 := (Array.getElem?_eq_some_iff.1 hh7).1
      have hseq := enab1_seq (w := w7) (b := wr.heap.size) (l := []) (v := v7) 4 (by omega) hh7 ho7 (by simp)
      have hvl : ∀ j, v7.ownBlock = some j → j < w7.heap.size := fun j hj => own_lt ho7 j hj
      refine wpIn_rangeFunc_V rfl (by omega) (gf := 40) (lb := #[.pointer (some ⟨wr.heap.size, 0, none⟩)]) rfl trivial (enters_of Try.func40 (by kernel_rfl) rfl) hseq (Below.refl _ _) (fun _ => rfl)
        (fun k hk => by
          rcases hk with h | h
          · omega
          · exact hvl k h)
        (fun W W' h k o hk _ _ => (h.block k (Array.getElem?_eq_some_iff.1 hk).1).trans hk)
        (fun _ _ _ _ _ _ _ h _ => h)
        (fun _ _ _ W => Below w7.heap.size w7 W) (fun _ _ _ => False) (fun _ _ _ W W' h hst => h.trans (hst.mono h.size)) (fun _ _ _ _ h _ => h)
        (fun _ _ _ W r o h hl => Below.putObjB h h.size (by omega) o) (fun _ _ _ _ _ h _ => h) ?start ?acta ?assigna ?bodya ?donea ?stopa
      case start => intro r; exact ((Below.refl _ _).alloc (Nat.le_refl _) _).alloc (by simp) _
      case assigna =>
        intro l x W K hK
        gi_wp2
        exact hK
      case bodya =>
        rintro l pre T hs x W _ ⟨suf, h⟩
        simp at h
      case stopa => rintro c pre W _ h _; exact h.elim
      case donea =>
        rintro ys T hs W1 hys hI hD
        have HI := hid hI
        have HD := hid hD
        have hB1 : Below wr.heap.size wr W1 := below_tr hI HE7.out.b (Nat.le_refl _)
        have HB1f := hid hB1
        have HF1 := hid (HFN.out W1 hB1)
        obtain ⟨_, _, _, q3, q4, q5⟩ := (HQR.out.below hB1).facts
        clear hys hI hD hB1
        have fin : ∀ {W8 : World}, Below W1.heap.size W1 W8 → Hid (∃ x, (W8.setCell ⟨w.heap.size + 1, 0, none⟩ (.bool true)).heap[w7.heap.size]? = some (.deferred (some [])) ∧ (W8.setCell ⟨w.heap.size + 1, 0, none⟩ (.bool true)).putObj w7.heap.size (.deferred none) = x ∧ x.cell? ⟨w.heap.size + 1, 0, none⟩ = some (.bool true) ∧ Below w.heap.size w x) := by
          intro W8 hb8
          have y1 := HW5.out.size
          have y2 := HBK.out.size
          have y3 := HE7.out.b.size
          have y4 := HI.out.size
          have hlz := (Array.getElem?_eq_some_iff.1 HD.out).1
          have q5r := HQR.out.facts.2.2.2.2.2
          have q3' : W8.cell? ⟨w.heap.size + 1, 0, none⟩ = some (.bool false) := (hb8.cell (p := ⟨w.heap.size + 1, 0, none⟩) q5).trans q3
          have dA : (W8.setCell ⟨w.heap.size + 1, 0, none⟩ (.bool true)).heap[w7.heap.size]? = some (.deferred (some [])) := by
            rw [Below.heap_setCell _ _ _ _ (by simp; omega)]
            exact (hb8.block _ hlz).trans HD.out
          have cS := World.cell?_setCell_same W8 ⟨w.heap.size + 1, 0, none⟩ (.bool true) q3'
          have cS2 := cell_kept cS (grownBy_putObj' _ w7.heap.size (.deferred none)) (fun r e => by cases e; exact ⟨_, dA, rfl⟩)
          have bS : Below w.heap.size w (W8.setCell ⟨w.heap.size + 1, 0, none⟩ (.bool true)) :=
            ((((HW5.out.trans (HBK.out.mono y1)).trans (HB1f.out.mono (by omega))).trans (hb8.mono (by omega)))).setCell (show w.heap.size ≤ w.heap.size + 1 by omega) _
          exact ⟨_, dA, rfl, cS2, Below.putObjB bS bS.size (by omega) (.deferred none)⟩
        rcases g7 with ⟨rfl, hfn⟩ | ⟨rfl, hfn⟩
        · rw [hfn] at HF1 HFN
          gi_wp2_with (first
            | (gi_at_call 12; (with_reducible refine (callsIn_wide.2 HF1.out).mono ?_); rintro e w8 ⟨rfl, hb8⟩; obtain ⟨x8, e1, e2, e3, e4⟩ := (fin hb8).out; have u3 := (hb8.cell (p := ⟨w.heap.size + 1, 0, none⟩) q5).trans q3; have u4 := (hb8.frozen (p := ⟨w.heap.size + 1, 0, none⟩) q5).trans q4)
            | (gi_at_call 12; (with_reducible refine (callsIn_wide.2 (HFN.out _ (below_tr hb8 HB1f.out (Nat.le_refl _)))).mono ?_); rintro e w9 ⟨rfl, hb9⟩; have hb89 := below_tr hb9 hb8 (Nat.le_refl _); obtain ⟨x9, f1, f2, f3, f4⟩ := (fin hb89).out; have t3 := (hb89.cell (p := ⟨w.heap.size + 1, 0, none⟩) q5).trans q3; have t4 := (hb89.frozen (p := ⟨w.heap.size + 1, 0, none⟩) q5).trans q4))
          all_goals first
            | (refine ⟨by simp, .inl ⟨_, _, rfl, run_takeDeferred f1, ?_⟩⟩; rw [f2]; exact ⟨.bool true, by simp [results, Try.results5, go_sem, f3], rfl, f4⟩)
            | (refine ⟨by simp, .inl ⟨_, _, rfl, run_takeDeferred e1, ?_⟩⟩; rw [e2]; exact ⟨.bool true, by simp [results, Try.results5, go_sem, e3], rfl, e4⟩)
        · rw [hfn] at HF1
          gi_wp2_with (gi_at_call 12; refine (callsIn_wide.2 HF1.out).mono ?_; rintro e w8 ⟨rfl, hb8⟩; obtain ⟨x8, e1, e2, e3, e4⟩ := (fin hb8).out; have u3 := (hb8.cell (p := ⟨w.heap.size + 1, 0, none⟩) q5).trans q3; have u4 := (hb8.frozen (p := ⟨w.heap.size + 1, 0, none⟩) q5).trans q4)
          refine ⟨by simp, .inl ⟨_, _, rfl, run_takeDeferred e1, ?_⟩⟩
          rw [e2]
          exact ⟨.bool true, by simp [results, Try.results5, go_sem, e3], rfl, e4⟩
theorem stuck_walk (w : World) (z : SetR) (hz : z.ok w) (htot : totW z.work ≤ 1099511627776) :
    Calls Try.prog 5 #[.agg z.cells.toArray] w fun e w' => e = .returned (.bool true) ∧ Below w.heap.size w w' := by
  cases hf : fewS z.zs z.work z.ps
  · exact stuck_no w z hz hf
  · by_cases hn : nlE (z.zs.map CeR.x) z.work = 0
    · exact stuck_core w z hz hf hn htot
    · exact stuck_bad w z hz hf hn
end Go.Proofs.Ythmockfeffikjaa
namespace Go.Proofs.Ythmockfeffikjaa
open Go.RowKit Go.ChangeShapes Go.WideShapes Go.ChangeAt

section
variable {H : Type} {enc : TypeId × Value → H} {W : World}
set_option maxRecDepth 100000 in
theorem opens_setupB : OpensIn enc Try.prog W 28 SetR.cells (SetR.ok W) (fun z => totW z.work) := fun n cs y h hlt => by
  obtain ⟨xs, k, rfl, rfl, hlen, hxl, hf⟩ := DataW.trod_struct Try.underlying28 h
  have hlen : cs.length = 3 := hlen.trans (by kernel_rfl)
  have hxl : xs.length = 3 := hxl
  have k0 : Try.prog.cellsOf 25 = 1 := by kernel_rfl
  have k1 : Try.prog.cellsOf 26 = 1 := by kernel_rfl
  have k2 : Try.prog.cellsOf 23 = 1 := by kernel_rfl
  have k3 : Try.prog.cellsOf 3 = 1 := by kernel_rfl
  have b1 : Try.prog.bytesOf 34 = 32 := by kernel_rfl
  have hce : OpensAs enc Try.prog W 25 _ _ := opens_slice (k := 7) Try.underlying25 (by kernel_rfl) (by decide) (fun _ => rfl) opens_cell
  have hac : OpensIn enc Try.prog W 32 _ _ _ := opens_sliceB (k := 4) Try.underlying32 (by kernel_rfl) (by decide) (fun _ => rfl) opens_access.one
  have hll : OpensIn enc Try.prog W 26 _ _ _ := opens_sliceB (k := 1) Try.underlying26 (by kernel_rfl) (by decide) (fun _ => rfl) hac
  obtain ⟨⟨p0, c0, l0⟩, e0, w0⟩ := hce _ _ _ ((hf 0 _ rfl).trans (List.getElem?_eq_getElem (by omega))) (light_field Try.underlying28 hlt (j := 0) rfl (List.getElem?_eq_getElem (by omega)))
  obtain ⟨⟨p1, c1, l1⟩, e1, w1, m1⟩ := hll _ _ _ ((hf 1 _ rfl).trans (List.getElem?_eq_getElem (by omega))) (light_field Try.underlying28 hlt (j := 1) rfl (List.getElem?_eq_getElem (by omega)))
  obtain ⟨⟨p2, c2, l2⟩, e2, w2⟩ := opens_intSlice Try.underlying23 Try.underlying3 k3 8 (by kernel_rfl) _ _ _ ((hf 2 _ rfl).trans (List.getElem?_eq_getElem (by omega))) (light_field Try.underlying28 hlt (j := 2) rfl (List.getElem?_eq_getElem (by omega)))
  have g0 := fieldk (off := 0) k0 e0
  have g1 := fieldk (off := 1) k1 e1
  have g2 := fieldk (off := 2) k2 e2
  clear e0 e1 e2
  obtain ⟨v0, v1, v2, rfl⟩ : ∃ v0 v1 v2, cs = [v0, v1, v2] := by
    match cs, hlen with
    | [a, b, c], _ => exact ⟨a, b, c, rfl⟩
  simp at g0 g1 g2
  subst g0 g1 g2
  refine ⟨⟨p0, c0, l0, p1, c1, l1, p2, c2, l2⟩, rfl, ⟨⟨w0.1, w0.2.1, w0.2.2.1, w0.2.2.2.1, w0.2.2.2.2.1⟩, ⟨w1.1, w1.2.1, w1.2.2.1, w1.2.2.2.1, fun x hx => ?_⟩, ⟨w2.1, w2.2.1, w2.2.2.1, w2.2.2.2.1, w2.2.2.2.2.1⟩⟩, ?_⟩
  · have hx := w1.2.2.2.2.1 x hx
    rw [b1] at hx
    exact hx
  · refine Nat.le_trans (Nat.le_of_eq ?_) (Nat.le_trans m1 (Nat.le_trans (bulk_mem (l := xs.map (·.1)) (List.mem_map.2 ⟨_, List.getElem_mem _, rfl⟩)) (by simp only [Rows.uptoBulk]; omega)))
    unfold totW SetR.work
    simp only [List.map_map, Function.comp_def]
    congr 1
    refine List.map_congr_left fun z _ => ?_
    rw [List.map_const', List.sum_replicate_nat, Nat.mul_one]
end
end Go.Proofs.Ythmockfeffikjaa
