/-
  The runner's tail.
-/
import Derived.Test.YthmockfeffikjaaJE21
namespace Go.Proofs.Ythmockfeffikjaa
open Go.RowKit
variable {W W' W1 wr : World} {base R L : Nat} {S S' : SL} {fw fc fc' : Nat → Prop} {most : Int} {r : Rn}

theorem TI.out {o : Obj} (h : TI (W.alloc o) base R L most fc fw S r wr fc') (hR : R < W.heap.size) (hb : base ≤ W.heap.size) : TI W base R L most fc fw S r wr fc' :=
  ⟨h.m, h.n, fun k hk => (h.f k hk).imp id (fun h1 => by rw [World.size_alloc] at h1; omega), ⟨h.t.os, h.t.tape, h.t.output, Nat.le_trans (by simp) h.t.size, fun k hk hn => (h.t.block k (by simp; omega) hn).trans (Below.heap_alloc _ _ _ hk)⟩,
    ((Below.refl _ _).alloc hb _).trans h.b, h.rc, h.rw, hR, h.br⟩
theorem TI.setO (h : TI W base R L most fc fw S r wr fc') {b : Nat} (hb : W.heap.size ≤ b) (h1 : ¬ fc' b) (h2 : ¬ fw b) (h3 : base ≤ W.heap.size) (o : Nat) (v : Value) : TI W base R L most fc fw S r (wr.setCell ⟨b, o, none⟩ v) fc' := by
  have hg := grown_set wr b o v
  have hne : b ≠ R := fun e => by have := h.rl; omega
  refine ⟨h.m.kept (fun k hk => Below.heap_setCell _ _ _ _ (fun e => ?_)) hg.size, (Below.heap_setCell _ _ _ _ (Ne.symm hne)).trans h.n, h.f, ⟨hg.os.trans h.t.os, hg.tape.trans h.t.tape, hg.output.trans h.t.output, Nat.le_trans h.t.size hg.size, fun k hk hn => ?_⟩, h.b.setCell (show base ≤ b by omega) _, h.rc, h.rw, h.rl, h.br⟩
  · have e : k = b := e
    subst e
    exact hk.elim h1 h2
  · exact (Below.heap_setCell _ _ _ _ (fun e => by have e : k = b := e; omega)).trans (h.t.block k hk hn)
def TailTell (W : World) (base R L : Nat) (most : Int) (fc fw : Nat → Prop) (T : SL × Rn × Int) (e : Ending) (w' : World) : Prop :=
  e = .returned (.tuple #[.agg #[i64 T.2.1.p, i64 T.2.1.s, i64 T.2.1.t], i64 T.2.2]) ∧ ∃ fc2, TI W base R L most fc fw T.1 T.2.1 w' fc2
def ranBlk (W : World) (b : Nat) : Prop := W.heap[b]? = some (.cells #[i64 0, i64 0, i64 0] 40 (0, 0))
theorem ran_facts {b : Nat} (h : ranBlk W b) : W.cell? ⟨b, 0, none⟩ = some (i64 0) ∧ W.cell? ⟨b, 1, none⟩ = some (i64 0) ∧ W.cell? ⟨b, 2, none⟩ = some (i64 0) ∧ (∀ o, W.frozen? ⟨b, o, none⟩ = false) ∧ b < W.heap.size :=
  ⟨cell_of_row W b 0 _ _ _ h, cell_of_row W b 1 _ _ _ h, cell_of_row W b 2 _ _ _ h, fun o => frozen_of_row _ _ _ _ _ h, (Array.getElem?_eq_some_iff.1 h).1⟩
/-- A return of the run's numbers. -/
theorem ti_ret {o : Obj} (h : TI (W.alloc o) base R L most fc fw S r wr fc') (hR : R < W.heap.size) (hbs : base ≤ W.heap.size) (hf : ∀ k, fc k ∨ fw k → k < W.heap.size) (v0 v1 v2 : Value) :
    TI W base R L most fc fw S r (((wr.setCell ⟨W.heap.size, 0, none⟩ v0).setCell ⟨W.heap.size, 1, none⟩ v1).setCell ⟨W.heap.size, 2, none⟩ v2) fc' := by
  have h1 : ¬ fc' W.heap.size := fun hk => by
    rcases h.f _ hk with h2 | h2
    · have := hf _ (.inl h2); omega
    · rw [World.size_alloc] at h2; omega
  have h2 : ¬ fw W.heap.size := fun hk => by have := hf _ (.inr hk); omega
  have h0 := h.out hR hbs
  exact ((h0.setO (Nat.le_refl _) h1 h2 hbs 0 v0).setO (Nat.le_refl _) h1 h2 hbs 1 v1).setO (Nat.le_refl _) h1 h2 hbs 2 v2
theorem tail_succ (most : Int) (f : Nat) (S : SL) (r : Rn) : S.tail most (f + 1) r = if S.finN then (S, r, 0) else if (S.turn most (wlist S.work.length 0) r false).2.2.2 then ((S.turn most (wlist S.work.length 0) r false).1, (S.turn most (wlist S.work.length 0) r false).2.1, 251) else if (S.turn most (wlist S.work.length 0) r false).2.2.1 = false then ((S.turn most (wlist S.work.length 0) r false).1, (S.turn most (wlist S.work.length 0) r false).2.1, 250) else SL.tail most f (S.turn most (wlist S.work.length 0) r false).1 (S.turn most (wlist S.work.length 0) r false).2.1 := rfl

theorem turn_no {w : Int} {l : List Int} {mv : Bool} (h : S.canN w = false) : S.turn most (w :: l) r mv = S.turn most l r mv := if_pos h
theorem turn_over {w : Int} {l : List Int} {mv : Bool} (h : S.canN w = true) (hf : most ≤ r.p + r.t) : S.turn most (w :: l) r mv = (S, r, mv, true) := (if_neg (by rw [h]; decide)).trans (if_pos hf)
theorem turn_yes {w : Int} {l : List Int} {mv : Bool} (h : S.canN w = true) (hf : ¬ most ≤ r.p + r.t) : S.turn most (w :: l) r mv = (S.stepN w).turn most l ⟨r.p, r.s, r.t + 1⟩ true := (if_neg (by rw [h]; decide)).trans (if_neg hf)

set_option maxRecDepth 100000 in
set_option maxHeartbeats 4000000 in
theorem tail_any (h : LM W base L S fc fw) (hn : RnIs W R L most r) (rc : ¬ fc R) (rw' : ¬ fw R) (br : base ≤ R) (hp : 0 ≤ r.p) (ht : 0 ≤ r.t) (hpt : r.p + r.t ≤ 1099511627776) (hm : most ≤ 1099511627776) (f : Nat) (hf : S.left < f) :
    Calls Try.prog 33 #[.pointer (some ⟨R, 0, none⟩)] W (TailTell W base R L most fc fw (S.tail most f r)) := by
  have HLT := hid h.lt
  have HBS : Hid (base ≤ W.heap.size) := by obtain ⟨_, _, _, _, _, _, _, _, _, hh, _⟩ := h; exact hh.bs
  have hRW := hn.cells.2.2.2.2.2.2
  have hA : Below W.heap.size W (W.alloc (.cells #[i64 0, i64 0, i64 0] 40)) := (Below.refl _ _).alloc (Nat.le_refl _) _
  have HT0 : Hid (TI (W.alloc (.cells #[i64 0, i64 0, i64 0] 40)) base R L most fc fw S r (W.alloc (.cells #[i64 0, i64 0, i64 0] 40)) fc) := TI.start (h.below hA) ((hA.block _ hRW).trans hn) rc rw' br
  have HRB : Hid (ranBlk (W.alloc (.cells #[i64 0, i64 0, i64 0] 40)) W.heap.size) := heap_alloc_new W _
  have HKP : Hid (∀ (S : SL) (r : Rn) (wr : World) (fc' : Nat → Prop), TI (W.alloc (.cells #[i64 0, i64 0, i64 0] 40)) base R L most fc fw S r wr fc' → ranBlk wr W.heap.size) :=
    fun S r wr fc' hh => hh.keep (by simp) (fun hk => by have := HLT.out _ (.inl hk); omega) (by omega) HRB.out
  have hln : S.said.length = S.work.length := by obtain ⟨_, _, _, _, _, _, _, _, _, hh, _⟩ := h; exact hh.ln
  obtain ⟨T, hT⟩ : ∃ T, T = S.tail most f r := ⟨_, rfl⟩
  rw [← hT]
  have HTT := hid hT
  have HHF := hid hf
  have HB := hid (And.intro hp (And.intro ht hpt))
  have hzR : R < W.heap.size + 1 := by omega
  clear h hn hA hT hf hp ht hpt rc rw'
  have k1 := m_workers
  have k4 := m_step
  go_enter Try.func33, Try.ntmps33
  go_wp2
  go_loopg [4] f (fun g v4 wr => ∃ (S2 : SL) (r2 : Rn) (fc2 : Nat → Prop), TI (W.alloc (.cells #[i64 0, i64 0, i64 0] 40)) base R L most fc fw S2 r2 wr fc2 ∧ S2.tail most g r2 = T ∧ S2.left < g ∧ 0 ≤ r2.p ∧ 0 ≤ r2.t ∧ r2.p + r2.t ≤ 1099511627776)
  case atStart => exact ⟨S, r, fc, HT0.out, HTT.out.symm, HHF.out, HB.out.1, HB.out.2.1, HB.out.2.2⟩
  case round =>
    clear HT0 HTT HHF HB HRB
    obtain ⟨S2, r2, fc2, hti, htl, hlf, h1, h2, h3⟩ := hrel
    obtain ⟨g, rfl⟩ : ∃ g, gk = g + 1 := ⟨gk - 1, by omega⟩
    have hln := (show S2.said.length = S2.work.length by obtain ⟨_, _, _, _, _, _, _, _, _, hh, _⟩ := hti.m; exact hh.ln)
    rw [tail_succ] at htl
    have HTI := hid hti
    have HFN := hid (fun w' (hb : Below wr.heap.size wr w') => fin_any (hti.m.below hb))
    have HWK := hid (fun w' (hb : Below wr.heap.size wr w') => lworkers_any (hti.m.below hb))
    have h64 := hti.m.bnd
    obtain ⟨a0, _⟩ := hti.n.cells
    clear hti
    cases hfin : S2.finN
    · rw [hfin] at htl HFN
      simp only [Bool.false_eq_true, if_false] at htl
      obtain ⟨U, hU⟩ : ∃ U, U = S2.turn most (wlist S2.work.length 0) r2 false := ⟨_, rfl⟩
      have hTL := turn_left most (wlist S2.work.length 0) S2 r2 false hln
      have hTS := turn_still most (wlist S2.work.length 0) S2 r2
      have hTW := turn_work most (wlist S2.work.length 0) S2 r2 false
      rw [← hU] at htl hTL hTS hTW
      have HU := hid hU
      have HTL := hid (And.intro htl (And.intro hTL (And.intro hTS hTW)))
      have HLF := hid hlf
      have HNP := hid (And.intro h1 (And.intro h2 h3))
      have HBW := hid (fun (w5 : World) (hb : Below wr.heap.size wr w5) => HTI.out.below hb)
      clear hU htl hTL hTS hTW hlf hfin hln h1 h2 h3
      unfold mi at *
      go_wp2_with (first
        | (go_at_call 12; (with_reducible refine (HFN.out _ (Below.refl _ _)).mono ?_); rintro e w3 ⟨rfl, hb3⟩; have HB3 := hid hb3; have HTI3 := hid (HBW.out _ hb3); obtain ⟨b0, _⟩ := HTI3.out.n.cells; unfold mi at b0; clear hb3)
        | (go_at_call 25; (with_reducible refine (HWK.out _ HB3.out).mono ?_); rintro e w' ⟨rfl, rfl⟩))
      clear a0 b0
      obtain ⟨wo, rfl⟩ : ∃ wo : World, wo = wr := ⟨_, rfl⟩
      go_loopw [4, 17] (fun v4 i wx => ∃ (k : Nat) (S3 : SL) (r3 : Rn) (mv : Bool) (fc3 : Nat → Prop), k ≤ S2.work.length ∧ i = .int .i64 k ∧ v4 = .bool mv ∧ TI (W.alloc (.cells #[i64 0, i64 0, i64 0] 40)) base R L most fc fw S3 r3 wx fc3 ∧ S3.turn most (wlist S2.work.length k) r3 mv = U ∧ 0 ≤ r3.p ∧ 0 ≤ r3.t ∧ r3.p + r3.t ≤ 1099511627776 ∧ S3.work.length = S2.work.length) (fun _ i _ => S2.work.length - (intOf i).toNat)
      case atStart => exact ⟨0, S2, r2, false, fc2, Nat.zero_le _, rfl, rfl, HTI3.out, HU.out.symm, HNP.out.1, HNP.out.2.1, HNP.out.2.2, rfl⟩
      case round =>
        clear HU HNP HTI3 HB3 HFN HWK HBW HTI
        obtain ⟨k, S3, r3, mv, fc3, hk, rfl, rfl, hti, htu, h1, h2, h3, hwl⟩ := hrel
        have HTI := hid hti
        obtain ⟨a0, a1, a2, a3, a4, af, al⟩ := hti.n.cells
        unfold mi at a0
        by_cases hlt : k < S2.work.length
        · rw [wlist_cons hlt] at htu
          have HAB := hid (fun w' (hb : Below wr.heap.size wr w') => able_any (hti.m.below hb) k)
          have HTB := hid (fun (w' : World) (hb : Below wr.heap.size wr w') => hti.below hb)
          unfold mi at HAB
          clear hti
          cases hc : S3.canN k
          · rw [turn_no hc] at htu
            rw [hc] at HAB
            have HTU := hid htu
            clear hc htu
            go_wp2_with (go_at_call 31; (with_reducible refine (HAB.out _ (Below.refl _ _)).mono ?_); rintro e w5 ⟨rfl, hb5⟩; have HB5 := hid hb5; clear hb5)
            go_roundw
            case rel => exact ⟨k + 1, S3, r3, mv, fc3, by omega, by go_num, rfl, HTB.out _ HB5.out, HTU.out, h1, h2, h3, hwl⟩
            case measure => simp [intOf]; omega
          · rw [hc] at HAB
            have HFL := hid (fun (w' : World) (hb : Below wr.heap.size wr w') => full_any (HTB.out w' hb).n h1 h2 h3)
            by_cases hov : most ≤ r3.p + r3.t
            · rw [turn_over hc hov] at htu
              have hd : decide (most ≤ r3.p + r3.t) = true := decide_eq_true hov
              rw [hd] at HFL
              have HTU := hid htu
              clear hc htu hov hd a0 a1 a2 a3 a4 af al
              obtain ⟨a0, _⟩ := HTI.out.n.cells
              unfold mi at a0
              go_wp2_with (first
                | (go_at_call 31; (with_reducible refine (HAB.out _ (Below.refl _ _)).mono ?_); rintro e w5 ⟨rfl, hb5⟩; have HB5 := hid hb5; clear hb5)
                | (go_at_call 32; (with_reducible refine (HFL.out _ HB5.out).mono ?_); rintro e w6 ⟨rfl, q6, rfl⟩; have HTI6 := hid (HTB.out _ (below_drewN HB5.out q6)); have HRB6 := hid (HKP.out _ _ _ _ HTI6.out); obtain ⟨b0, b1, b2, b3, b4, bf, bl⟩ := HTI6.out.n.cells; obtain ⟨e0, e1, e2, ef, el⟩ := ran_facts HRB6.out))
              have hT : T = (S3, r3, 251) := by
                have := HTL.out.1
                rw [← HTU.out] at this
                exact this.symm
              rw [hT]
              exact bodyPost_ret (v := .tuple #[.agg #[i64 r3.p, i64 r3.s, i64 r3.t], i64 251]) (by simp [results, Try.results33, go_sem, e0, e1, e2]) rfl ⟨rfl, fc3, ti_ret HTI6.out hRW HBS.out HLT.out _ _ _⟩
            · rw [turn_yes hc hov] at htu
              have hd : decide (most ≤ r3.p + r3.t) = false := decide_eq_false hov
              rw [hd] at HFL
              have HTU := hid htu
              have HST := hid (fun (w' : World) (hb : Below wr.heap.size wr w') => lstep_any (HTB.out w' hb).m k)
              have HHB := hid (show r3.p + (r3.t + 1) ≤ 1099511627776 by omega)
              clear hc htu hov hd a0 a1 a2 a3 a4 af al
              obtain ⟨a0, _⟩ := HTI.out.n.cells
              unfold mi at a0
              go_wp2_with (first
                | (go_at_call 31; (with_reducible refine (HAB.out _ (Below.refl _ _)).mono ?_); rintro e w5 ⟨rfl, hb5⟩; have HB5 := hid hb5; clear hb5)
                | (go_at_call 32; (with_reducible refine (HFL.out _ HB5.out).mono ?_); rintro e w6 ⟨rfl, q6, rfl⟩; have HB6 := hid (below_drewN HB5.out q6); have HTI6 := hid (HTB.out _ HB6.out); obtain ⟨b0, _⟩ := HTI6.out.n.cells; unfold mi at b0)
                | (go_at_call 24; (with_reducible refine (HST.out _ HB6.out).mono ?_); rintro e w7 hls; obtain ⟨fc4, ht7⟩ := HTI6.out.step hls; obtain ⟨rfl, _⟩ := hls; have HTI7 := hid ht7; obtain ⟨d0, d1, d2, d3, d4, df, dl⟩ := ht7.n.cells; unfold mi at d0; clear ht7 b0))
              go_roundw
              case rel => exact ⟨k + 1, S3.stepN k, ⟨r3.p, r3.s, r3.t + 1⟩, true, fc4, by omega, by go_num, rfl, HTI7.out.setT, HTU.out, h1, by show 0 ≤ r3.t + 1; omega, HHB.out, by rw [step_work]; exact hwl⟩
              case measure => simp [intOf]; omega
        · have hkl : k = S2.work.length := by omega
          rw [hkl, wlist_end] at htu
          have htu : (S3, r3, mv, false) = U := htu
          have HSM := hid (fun w' (hb : Below wr.heap.size wr w') => some_any (hti.m.below hb))
          unfold mi at HSM
          clear hti
          cases mv
          · have HS3 : Hid (S3 = S2 ∧ r3 = r2 ∧ S3.enab = []) := by
              have h := HTL.out.2.2.1 (by rw [← htu]) (by rw [← htu])
              have e1 : S3 = S2 := by have := h.1; rw [← htu] at this; exact this
              have e2 : r3 = r2 := by have := h.2.1; rw [← htu] at this; exact this
              refine ⟨e1, e2, ?_⟩
              rw [e1]
              exact enab_none h.2.2
            rw [HS3.out.2.2] at HSM
            have HTT : Hid (T = (S3, r3, 250)) := by
              have := HTL.out.1
              rw [← htu] at this
              exact this.symm
            have HTB := hid (fun (w' : World) (hb : Below wr.heap.size wr w') => HTI.out.below hb)
            clear htu hkl a1 a2 a3 a4 af al
            dsimp only [List.isEmpty_nil, Bool.not_true] at HSM
            go_wp2_with (go_at_call 48; (with_reducible refine (HSM.out _ (Below.refl _ _)).mono ?_); rintro e w5 ⟨rfl, hb5⟩; have HTI5 := hid (HTB.out _ hb5); have HRB5 := hid (HKP.out _ _ _ _ HTI5.out); obtain ⟨b0, b1, b2, b3, b4, bf, bl⟩ := HTI5.out.n.cells; obtain ⟨e0, e1, e2, ef, el⟩ := ran_facts HRB5.out; clear hb5)
            rw [HTT.out]
            exact bodyPost_ret (v := .tuple #[.agg #[i64 r3.p, i64 r3.s, i64 r3.t], i64 250]) (by simp [results, Try.results33, go_sem, e0, e1, e2]) rfl ⟨rfl, fc3, ti_ret HTI5.out hRW HBS.out HLT.out _ _ _⟩
          · have HRL : Hid (S3.tail most g r3 = T ∧ S3.left < g) := by
              have e1 := HTL.out.1
              have e2 := HTL.out.2.1.2.1
              rw [← htu] at e1 e2
              have e3 := e2 (by first | rfl | trivial) (by first | rfl | trivial)
              have e4 := HLF.out
              exact ⟨e1, by show S3.left < g; have : S3.left < S2.left := e3; omega⟩
            clear htu hkl a0 a1 a2 a3 a4 af al
            go_wp2_with fail
            go_roundg g
            case rel => exact ⟨S3, r3, fc3, HTI.out, HRL.out.1, HRL.out.2, h1, h2, h3⟩
            case measure => omega
    · rw [hfin] at htl HFN
      simp only [if_true] at htl
      subst htl
      clear hfin hlf
      go_wp2_with (go_at_call 12; (with_reducible refine (HFN.out _ (Below.refl _ _)).mono ?_); rintro e w3 ⟨rfl, hb3⟩; have HTI3 := hid (HTI.out.below hb3); have HRB3 := hid (HKP.out _ _ _ _ HTI3.out); obtain ⟨b0, b1, b2, b3, b4, bf, bl⟩ := HTI3.out.n.cells; obtain ⟨e0, e1, e2, ef, el⟩ := ran_facts HRB3.out; clear hb3)
      exact bodyPost_ret (v := .tuple #[.agg #[i64 r2.p, i64 r2.s, i64 r2.t], i64 0]) (by simp [results, Try.results33, go_sem, e0, e1, e2]) rfl ⟨rfl, fc2, ti_ret HTI3.out hRW HBS.out HLT.out _ _ _⟩
end Go.Proofs.Ythmockfeffikjaa
