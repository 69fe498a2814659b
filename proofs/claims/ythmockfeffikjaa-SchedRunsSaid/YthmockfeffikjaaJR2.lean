/-
  Run of the document's machine of lists.
  Runs that are refused; the walk of SchedRuns.
-/
import Derived.Test.YthmockfeffikjaaJR1
namespace Go.Proofs.Ythmockfeffikjaa
open Go.RowKit
variable {W W' wr w4 : World} {base R : Nat} {S S' : SL} {fcr fwr : Nat → Prop} {r : Rn} {most : Int}

theorem RR.row (H : RR W base R fcr fwr S r wr) {p : Option Addr} {cs : List Value} (h : Row W p cs) (hpf : cs ≠ [] → ∀ q, p = some q → ¬ fcr q.block) : Row wr p cs :=
  row_blk h (fun hne q e => H.t.block _ (row_lt h hne q e) (hpf hne q e))
theorem RR.ln (H : RR W base R fcr fwr S r wr) : S.said.length = S.work.length ∧ S.work.length ≤ 64 := by
  obtain ⟨fc', ⟨_, _, _, _, _, _, _, _, _, _, hh, _⟩, _⟩ := H.m
  exact ⟨hh.ln, hh.n1⟩

set_option maxRecDepth 100000 in
set_option maxHeartbeats 8000000 in
theorem rlrun_any (H : RLM W base R S fcr fwr) (ps : List Int) (p : Option Addr) (c : Nat) (hc : ps.length ≤ c) (hm : c ≤ maxLen) (hrow : Row W p (ints64 ps)) (hpf : ps ≠ [] → ∀ q, p = some q → ¬ fcr q.block) (hps : ps.length ≤ 65536) (h0 : 0 ≤ most) (h1 : most ≤ 1099511627776) :
    Calls Try.prog 20 #[.pointer (some ⟨R, 0, none⟩), .slice p ps.length c, i64 most] W (RRunTell W base R fcr fwr (S.run ps most)) := by
  obtain ⟨U, hU⟩ : ∃ U, U = S.picks most ps ⟨0, 0, 0⟩ := ⟨_, rfl⟩
  obtain ⟨T, hT⟩ : ∃ T, T = S.run ps most := ⟨_, rfl⟩
  have HT1 : Hid (U.2.2 = true → T = (U.1, U.2.1, 251)) := fun h => by
    rw [hT]; unfold SL.run
    rw [if_neg (by omega), if_neg (by omega), ← hU]
    obtain ⟨a, b, d⟩ := U
    have h' : d = true := h
    subst h'; rfl
  have HT2 : Hid (U.2.2 = false → T = SL.tail most (U.1.left + 1) U.1 U.2.1) := fun h => by
    rw [hT]; unfold SL.run
    rw [if_neg (by omega), if_neg (by omega), ← hU]
    obtain ⟨a, b, d⟩ := U
    have h' : d = false := h
    subst h'; rfl
  rw [← hT]
  clear hT
  have HR0 := hid (RR.start H)
  have HRW := hid hrow
  have HPF : Hid (ints64 ps ≠ [] → ∀ q, p = some q → ¬ fcr q.block) := fun hne => hpf (fun e => hne (by rw [e]; rfl))
  have HU := hid hU
  unfold maxLen at hm
  have hmI : ¬ (most < 0) := by omega
  have hmI2 : ¬ (1099511627776 < most) := by omega
  have hpI : ¬ (65536 < (ps.length : Int)) := by omega
  clear H hrow hpf hU
  go_enter Try.func20, Try.ntmps20
  go_wp2_with fail
  obtain ⟨wz, hwz⟩ : ∃ wz, wz = (W.alloc (.cells #[i64 0, i64 0, i64 0] 40)).alloc (.cells #[i64 0, i64 0, i64 0] 40) := ⟨_, rfl⟩
  rw [← hwz] at HR0 ⊢
  clear hwz
  go_loopw [9] (fun i wx => ∃ (k : Nat) (S3 : SL) (r3 : Rn), k ≤ ps.length ∧ i = .int .i64 k ∧ RR W base R fcr fwr S3 r3 wx ∧ S3.picks most (ps.drop k) r3 = U ∧ 0 ≤ r3.p ∧ 0 ≤ r3.s ∧ r3.s ≤ k ∧ r3.t = 0 ∧ r3.p ≤ most) (fun i _ => ps.length - (intOf i).toNat)
  case atStart => exact ⟨0, S, ⟨0, 0, 0⟩, Nat.zero_le _, rfl, HR0.out, by rw [List.drop_zero]; exact HU.out.symm, by show (0 : Int) ≤ 0; omega, by show (0 : Int) ≤ 0; omega, by show (0 : Int) ≤ _; omega, rfl, by show (0 : Int) ≤ _; omega⟩
  case round =>
    clear HR0 HU
    obtain ⟨k, S3, r3, hk, rfl, hrr, hpk, q1, q2, q3, q4, q5⟩ := hrel
    have HRR := hid hrr
    have hrow := hrr.row HRW.out HPF.out
    obtain ⟨⟨a0, a1, a2, af, al⟩, ⟨b0, b1, b2, bf, bl⟩⟩ := hrr.facts
    by_cases hlt : k < ps.length
    · have hltI : (k : Int) < ps.length := by omega
      obtain ⟨g, o, rfl, hbz, hcs⟩ := hrow.at (by unfold ints64; rw [List.length_map]; omega)
      have hcell := hcs k (by unfold ints64; rw [List.length_map]; exact hlt)
      unfold ints64 at hcell
      simp only [List.getElem_map] at hcell
      obtain ⟨fc', hrm, hff⟩ := hrr.m
      have HCN := hid (rcan_any hrm ps[k])
      rw [List.drop_eq_getElem_cons hlt] at hpk
      obtain ⟨x, hx⟩ : ∃ x, x = ps[k] := ⟨_, rfl⟩
      rw [← hx] at hcell HCN hpk
      have HST := hid (fun w' (hb : Below wr.heap.size wr w') => rlstep_any (hrm.below hb) x)
      have HFF := hid hff
      clear hrr hrow hcs hrm hff hx
      cases hcn : S3.canN x
      · rw [picks_no hcn] at hpk
        rw [hcn] at HCN
        have HPK := hid hpk
        clear hcn hpk
        go_wp2_with (go_at_call 15; (with_reducible refine HCN.out.mono ?_); rintro e w5 ⟨rfl, hb5⟩; have HR5 := hid (HRR.out.below hb5); obtain ⟨⟨d0, d1, d2, df, dl⟩, _⟩ := HR5.out.facts; clear hb5)
        go_roundw
        case rel => exact ⟨k + 1, S3, ⟨r3.p, r3.s + 1, r3.t⟩, by omega, by go_num, HR5.out.setS, HPK.out, q1, by show 0 ≤ r3.s + 1; omega, by show r3.s + 1 ≤ _; omega, q4, q5⟩
        case measure => simp [intOf]; omega
      · rw [hcn] at HCN
        by_cases hov : most ≤ r3.p + r3.t
        · rw [picks_over hcn hov] at hpk
          have hpe : r3.p = most := by omega
          have hd : (r3.p == most) = true := by simpa using hpe
          have HPK := hid hpk
          have HPE := hid hpe
          clear hcn hpk hov hpe
          go_wp2_with (go_at_call 15; (with_reducible refine HCN.out.mono ?_); rintro e w5 ⟨rfl, hb5⟩; have HR5 := hid (HRR.out.below hb5); obtain ⟨⟨d0, d1, d2, df, dl⟩, ⟨e0, e1, e2, ef, el⟩⟩ := HR5.out.facts; clear hb5)
          have hT : T = (S3, r3, 251) := by
            have h := HT1.out
            rw [← HPK.out] at h
            exact h rfl
          rw [hT]
          exact bodyPost_ret (v := .tuple #[.agg #[i64 r3.p, i64 r3.s, i64 r3.t], i64 251]) (by simp [results, Try.results20, go_sem, e0, e1, e2, q4]) rfl (HR5.out.tell 251 _ _ _)
        · rw [picks_yes hcn hov] at hpk
          have hpe : ¬ r3.p = most := by omega
          have hd : (r3.p == most) = false := by simpa using hpe
          have HPK := hid hpk
          have HPE := hid hpe
          have hp1 : r3.p + 1 ≤ most := by omega
          clear hcn hpk hov hpe
          go_wp2_with (first
            | (go_at_call 15; (with_reducible refine HCN.out.mono ?_); rintro e w5 ⟨rfl, hb5⟩; have HB5 := hid hb5; have HR5 := hid (HRR.out.below hb5); obtain ⟨⟨d0, d1, d2, df, dl⟩, _⟩ := HR5.out.facts; have hcell5 := (hb5.cell (p := ⟨g, o + k, none⟩) hbz).trans hcell; clear hb5)
            | (go_at_call 16; (with_reducible refine (HST.out _ HB5.out).mono ?_); rintro e w7 hls; have HR7 := hid (HR5.out.step HFF.out hls); obtain ⟨rfl, _⟩ := hls; obtain ⟨⟨g0, g1, g2, gf, gl⟩, _⟩ := HR7.out.facts))
          go_roundw
          case rel => exact ⟨k + 1, S3.stepN x, ⟨r3.p + 1, r3.s, r3.t⟩, by omega, by go_num, HR7.out.setP, HPK.out, by show 0 ≤ r3.p + 1; omega, q2, by show r3.s ≤ _; omega, q4, hp1⟩
          case measure => simp [intOf]; omega
    · have hltI : ¬ ((k : Int) < ps.length) := by omega
      have hkl : k = ps.length := by omega
      rw [hkl, List.drop_length] at hpk
      have hpk : (S3, r3, false) = U := hpk
      rw [← hpk] at HT2
      have hT := HT2.out rfl
      dsimp only at hT
      have HTT := hid hT
      clear hpk hkl hrr hrow hT a0 a1 a2 af al b0 b1 b2 bf bl HT1 HT2 HRW HPF
      go_wp2_with fail
      go_loopg [10] (S3.left + 1) (fun g v10 wr => ∃ (S2 : SL) (r2 : Rn), RR W base R fcr fwr S2 r2 wr ∧ S2.tail most g r2 = T ∧ S2.left < g ∧ 0 ≤ r2.p ∧ 0 ≤ r2.t ∧ r2.p + r2.t ≤ most)
      case atStart => exact ⟨S3, r3, HRR.out, HTT.out.symm, Nat.lt_succ_self _, q1, by omega, by omega⟩
      case round =>
        clear HRR HTT q1 q2 q3 q4 q5
        obtain ⟨S2, r2, hrr, htl, hlf, p1, p2, p3⟩ := hrel
        obtain ⟨g, rfl⟩ : ∃ g, gk = g + 1 := ⟨gk - 1, by omega⟩
        obtain ⟨hln, h64⟩ := hrr.ln
        rw [tail_succ] at htl
        have HRR := hid hrr
        obtain ⟨fc', hrm, hff⟩ := hrr.m
        have HFN := hid (rlfin_any hrm)
        clear hrr hrm hff
        cases hfin : S2.finN
        · rw [hfin] at htl HFN
          simp only [Bool.false_eq_true, if_false] at htl
          obtain ⟨V, hV⟩ : ∃ V, V = S2.turn most (wlist S2.work.length 0) r2 false := ⟨_, rfl⟩
          have hTL := turn_left most (wlist S2.work.length 0) S2 r2 false hln
          rw [← hV] at htl hTL
          have HV := hid hV
          have HTL := hid (And.intro htl hTL)
          have HLF := hid hlf
          clear hV htl hTL hlf hfin
          go_wp2_with (go_at_call 22; (with_reducible refine HFN.out.mono ?_); rintro e w3 ⟨rfl, hb3⟩; have HR3 := hid (HRR.out.below hb3); obtain ⟨⟨d0, d1, d2, df, dl⟩, _⟩ := HR3.out.facts; clear hb3)
          obtain ⟨wo, rfl⟩ : ∃ wo : World, wo = wr := ⟨_, rfl⟩
          clear d0 d1 d2 df dl
          go_loopw [11] (fun i wx => ∃ (k : Nat) (S4 : SL) (r4 : Rn) (mv : Bool), k ≤ S2.work.length ∧ i = .int .i64 k ∧ RR W base R fcr fwr S4 r4 wx ∧ S4.turn most (wlist S2.work.length k) r4 mv = V ∧ 0 ≤ r4.p ∧ 0 ≤ r4.t ∧ r4.p + r4.t ≤ most ∧ S4.work.length = S2.work.length ∧ (mv = false → r4.t = r2.t) ∧ (mv = true → r2.t < r4.t)) (fun i _ => S2.work.length - (intOf i).toNat)
          case atStart => exact ⟨0, S2, r2, false, Nat.zero_le _, rfl, HR3.out, HV.out.symm, p1, p2, p3, rfl, fun _ => rfl, fun h => by cases h⟩
          case round =>
            clear HV HR3 HFN HRR
            obtain ⟨k, S4, r4, mv, hk, rfl, hrr, htu, s1, s2, s3, hwl, hm0, hm1⟩ := hrel
            have HRR := hid hrr
            obtain ⟨⟨a0, a1, a2, af, al⟩, ⟨b0, b1, b2, bf, bl⟩⟩ := hrr.facts
            obtain ⟨fc', hrm, hff⟩ := hrr.m
            obtain ⟨hrl, wp, wc, hc1⟩ := hrm.r1
            rw [hwl] at hc1
            by_cases hlt2 : k < S2.work.length
            · rw [wlist_cons hlt2] at htu
              have hlt2I : (k : Int) < S2.work.length := by omega
              have HCN := hid (rcan_any hrm k)
              have HST := hid (fun w' (hb : Below wr.heap.size wr w') => rlstep_any (hrm.below hb) k)
              have HFF := hid hff
              clear hrr hrm hff
              cases hcn : S4.canN k
              · rw [turn_no hcn] at htu
                rw [hcn] at HCN
                have HTU := hid htu
                clear hcn htu
                go_wp2_with (go_at_call 15; (with_reducible refine HCN.out.mono ?_); rintro e w5 ⟨rfl, hb5⟩; have HR5 := hid (HRR.out.below hb5); clear hb5)
                go_roundw
                case rel => exact ⟨k + 1, S4, r4, mv, by omega, by go_num, HR5.out, HTU.out, s1, s2, s3, hwl, hm0, hm1⟩
                case measure => simp [intOf]; omega
              · rw [hcn] at HCN
                by_cases hov : most ≤ r4.p + r4.t
                · rw [turn_over hcn hov] at htu
                  have hpe : r4.p + r4.t = most := by omega
                  have hd : (r4.p + r4.t == most) = true := by simpa using hpe
                  have HTU := hid htu
                  clear hcn htu hov
                  go_wp2_with (go_at_call 15; (with_reducible refine HCN.out.mono ?_); rintro e w5 ⟨rfl, hb5⟩; have HR5 := hid (HRR.out.below hb5); obtain ⟨⟨d0, d1, d2, df, dl⟩, ⟨e0, e1, e2, ef, el⟩⟩ := HR5.out.facts; clear hb5)
                  have hT : T = (S4, r4, 251) := by
                    have := HTL.out.1
                    rw [← HTU.out] at this
                    exact this.symm
                  rw [hT]
                  exact bodyPost_ret (v := .tuple #[.agg #[i64 r4.p, i64 r4.s, i64 r4.t], i64 251]) (by simp [results, Try.results20, go_sem, e0, e1, e2]) rfl (HR5.out.tell 251 _ _ _)
                · rw [turn_yes hcn hov] at htu
                  have hpe : ¬ r4.p + r4.t = most := by omega
                  have hd : (r4.p + r4.t == most) = false := by simpa using hpe
                  have HTU := hid htu
                  have hp1 : r4.p + (r4.t + 1) ≤ most := by omega
                  have hm2 : r2.t < r4.t + 1 := by
                    cases mv
                    · have := hm0 rfl; omega
                    · have := hm1 rfl; omega
                  have HM2 := hid hm2
                  clear hcn htu hov hpe hm2
                  go_wp2_with (first
                    | (go_at_call 15; (with_reducible refine HCN.out.mono ?_); rintro e w5 ⟨rfl, hb5⟩; have HB5 := hid hb5; have HR5 := hid (HRR.out.below hb5); obtain ⟨⟨d0, d1, d2, df, dl⟩, _⟩ := HR5.out.facts; clear hb5)
                    | (go_at_call 16; (with_reducible refine (HST.out _ HB5.out).mono ?_); rintro e w7 hls; have HR7 := hid (HR5.out.step HFF.out hls); obtain ⟨rfl, _⟩ := hls; obtain ⟨⟨g0, g1, g2, gf, gl⟩, _⟩ := HR7.out.facts))
                  go_roundw
                  case rel => exact ⟨k + 1, S4.stepN k, ⟨r4.p, r4.s, r4.t + 1⟩, true, by omega, by go_num, HR7.out.setT, HTU.out, s1, by show 0 ≤ r4.t + 1; omega, hp1, by rw [step_work]; exact hwl, fun h => by (cases h), fun _ => HM2.out⟩
                  case measure => simp [intOf]; omega
            · have hlt2I : ¬ ((k : Int) < S2.work.length) := by omega
              have hkl : k = S2.work.length := by omega
              rw [hkl, wlist_end] at htu
              have htu : (S4, r4, mv, false) = V := htu
              have HRR := hid hrr
              obtain ⟨ht1, ht2⟩ := HTL.out
              rw [← htu] at ht1 ht2
              simp only [Bool.false_eq_true, if_false] at ht1
              clear hrr hrm hff htu
              cases mv
              · have HTT : Hid (T = (S4, r4, 250)) := ht1.symm
                have hte : r4.t = r2.t := hm0 rfl
                have hd : (r4.t == r2.t) = true := by simpa using hte
                clear ht1 ht2 hm0 hm1 hte
                go_wp2_with fail
                rw [HTT.out]
                exact bodyPost_ret (v := .tuple #[.agg #[i64 r4.p, i64 r4.s, i64 r4.t], i64 250]) (by simp [results, Try.results20, go_sem, b0, b1, b2]) rfl (HRR.out.tell 250 _ _ _)
              · have hte : r2.t < r4.t := hm1 rfl
                have hd : (r4.t == r2.t) = false := by simp; omega
                have hd2 : ¬ r4.t = r2.t := by omega
                have HRL : Hid (S4.tail most g r4 = T ∧ S4.left < g) := ⟨ht1, by have h := ht2.2.1 (by first | rfl | trivial) (by first | rfl | trivial); have := HLF.out; have h : S4.left < S2.left := h; omega⟩
                clear ht1 ht2 hm0 hm1 hte
                go_wp2_with fail
                go_roundg g
                case rel => exact ⟨S4, r4, HRR.out, HRL.out.1, HRL.out.2, s1, s2, s3⟩
                case measure => omega
        · rw [hfin] at htl HFN
          simp only [if_true] at htl
          have HTL := hid htl
          clear htl hfin
          go_wp2_with (go_at_call 22; (with_reducible refine HFN.out.mono ?_); rintro e w3 ⟨rfl, hb3⟩; have HR5 := hid (HRR.out.below hb3); obtain ⟨⟨d0, d1, d2, df, dl⟩, ⟨e0, e1, e2, ef, el⟩⟩ := HR5.out.facts; clear hb3)
          rw [← HTL.out]
          exact bodyPost_ret (v := .tuple #[.agg #[i64 r2.p, i64 r2.s, i64 r2.t], i64 0]) (by simp [results, Try.results20, go_sem, e0, e1, e2]) rfl (HR5.out.tell 0 _ _ _)
end Go.Proofs.Ythmockfeffikjaa
namespace Go.Proofs.Ythmockfeffikjaa
open Go.RowKit
variable {W W' w : World} {base L R : Nat} {S : SL} {fc fw fcr fwr : Nat → Prop} {most : Int}

theorem run_bad {ps : List Int} (h : ps.length ≤ 65536) (hm : most < 0 ∨ 1099511627776 < most) : S.run ps most = (S, ⟨0, 0, 0⟩, 1) := by
  unfold SL.run
  rw [if_neg (by omega), if_pos hm]
set_option maxRecDepth 100000 in
set_option maxHeartbeats 4000000 in
theorem run_all (H : LM W base L S fc fw) (ps : List Int) (p : Option Addr) (c : Nat) (hc : ps.length ≤ c) (hm : c ≤ maxLen) (hrow : Row W p (ints64 ps)) (hpf : ps ≠ [] → ∀ q, p = some q → ¬ fc q.block) (hps : ps.length ≤ 65536) :
    Calls Try.prog 11 #[mi L, .slice p ps.length c, i64 most] W (RunTell W base L fc fw (S.run ps most)) := by
  by_cases h : most < 0 ∨ 1099511627776 < most
  · rw [run_bad hps h]
    have HB : Hid (Below W.heap.size W (W.alloc (.cells #[i64 0, i64 0, i64 0] 40))) := (Below.refl _ _).alloc (Nat.le_refl _) _
    have HRB : Hid (ranBlk (W.alloc (.cells #[i64 0, i64 0, i64 0] 40)) W.heap.size) := heap_alloc_new W _
    have hbs : base ≤ W.heap.size := by obtain ⟨_, _, _, _, _, _, _, _, _, hh, _⟩ := H; exact hh.bs
    have HF : Hid (∀ w', Below W.heap.size W w' → RunTell W base L fc fw (S, ⟨0, 0, 0⟩, 1) (.returned (.tuple #[.agg #[i64 0, i64 0, i64 0], i64 1])) w') := fun w' hb => ⟨rfl, fc, H.below hb, fun k h => .inl h, Turn.of_below hb, hb.mono hbs⟩
    have hpI : ¬ (65536 < (ps.length : Int)) := by omega
    clear H hrow hpf
    obtain ⟨e0, e1, e2, ef, el⟩ := ran_facts HRB.out
    unfold mi
    have hmx : ¬ (maxLen < c) := by omega
    rcases h with h | h
    · have h1 : decide (most < 0) = true := decide_eq_true h
      go_enter Try.func11, Try.ntmps11
      go_wp2_with fail
      exact bodyPost_ret (v := .tuple #[.agg #[i64 0, i64 0, i64 0], i64 1]) (by simp [results, Try.results11, go_sem, e0, e1, e2]) rfl (HF.out _ HB.out)
    · have h1 : decide (most < 0) = false := decide_eq_false (by omega)
      have h2 : decide (1099511627776 < most) = true := decide_eq_true h
      have h3 : ¬ most < 0 := by omega
      go_enter Try.func11, Try.ntmps11
      go_wp2_with fail
      exact bodyPost_ret (v := .tuple #[.agg #[i64 0, i64 0, i64 0], i64 1]) (by simp [results, Try.results11, go_sem, e0, e1, e2]) rfl (HF.out _ HB.out)
  · exact run_any H ps p c hc hm hrow hpf hps (by omega) (by omega)
set_option maxRecDepth 100000 in
set_option maxHeartbeats 4000000 in
theorem rlrun_all (H : RLM W base R S fcr fwr) (ps : List Int) (p : Option Addr) (c : Nat) (hc : ps.length ≤ c) (hm : c ≤ maxLen) (hrow : Row W p (ints64 ps)) (hpf : ps ≠ [] → ∀ q, p = some q → ¬ fcr q.block) (hps : ps.length ≤ 65536) :
    Calls Try.prog 20 #[.pointer (some ⟨R, 0, none⟩), .slice p ps.length c, i64 most] W (RRunTell W base R fcr fwr (S.run ps most)) := by
  by_cases h : most < 0 ∨ 1099511627776 < most
  · rw [run_bad hps h]
    have HB : Hid (Below W.heap.size W (W.alloc (.cells #[i64 0, i64 0, i64 0] 40))) := (Below.refl _ _).alloc (Nat.le_refl _) _
    have HRB : Hid (ranBlk (W.alloc (.cells #[i64 0, i64 0, i64 0] 40)) W.heap.size) := heap_alloc_new W _
    have hbs := H.bs
    have HF : Hid (∀ w', Below W.heap.size W w' → RRunTell W base R fcr fwr (S, ⟨0, 0, 0⟩, 1) (.returned (.tuple #[.agg #[i64 0, i64 0, i64 0], i64 1])) w') := fun w' hb => ⟨rfl, ⟨fcr, H.below hb, fun k h => .inl h⟩, Turn.of_below hb, hb.mono hbs⟩
    have hpI : ¬ (65536 < (ps.length : Int)) := by omega
    clear H hrow hpf
    obtain ⟨e0, e1, e2, ef, el⟩ := ran_facts HRB.out
    rcases h with h | h
    · have h1 : decide (most < 0) = true := decide_eq_true h
      go_enter Try.func20, Try.ntmps20
      go_wp2_with fail
      exact bodyPost_ret (v := .tuple #[.agg #[i64 0, i64 0, i64 0], i64 1]) (by simp [results, Try.results20, go_sem, e0, e1, e2]) rfl (HF.out _ HB.out)
    · have h1 : decide (most < 0) = false := decide_eq_false (by omega)
      have h2 : decide (1099511627776 < most) = true := decide_eq_true h
      have h3 : ¬ most < 0 := by omega
      go_enter Try.func20, Try.ntmps20
      go_wp2_with fail
      exact bodyPost_ret (v := .tuple #[.agg #[i64 0, i64 0, i64 0], i64 1]) (by simp [results, Try.results20, go_sem, e0, e1, e2]) rfl (HF.out _ HB.out)
  · exact rlrun_any H ps p c hc hm hrow hpf hps (by omega) (by omega)
end Go.Proofs.Ythmockfeffikjaa
