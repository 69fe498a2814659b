/-
  Run.
-/
import Derived.Test.YthmockfeffikjaaJE22
namespace Go.Proofs.Ythmockfeffikjaa
open Go.RowKit
variable {W W' W1 wr : World} {base R L : Nat} {S S' S2 : SL} {fw fc fc' fc2 : Nat → Prop} {most : Int} {r r2 : Rn}

theorem TI.trans {w' : World} (h : TI W base R L most fc fw S r wr fc') (h2 : TI wr base R L most fc' fw S2 r2 w' fc2) : TI W base R L most fc fw S2 r2 w' fc2 :=
  ⟨h2.m, h2.n, fun k hk => by
    rcases h2.f k hk with h1 | h1
    · exact h.f k h1
    · exact .inr (Nat.le_trans h.t.size h1),
   ⟨h2.t.os.trans h.t.os, h2.t.tape.trans h.t.tape, h2.t.output.trans h.t.output, Nat.le_trans h.t.size h2.t.size, fun k hk hn => by
      refine (h2.t.block k (Nat.lt_of_lt_of_le hk h.t.size) (fun h3 => ?_)).trans (h.t.block k hk hn)
      rcases h3 with h3 | h3
      · rcases h.f k h3 with h4 | h4
        · exact hn (.inl h4)
        · omega
      · exact hn (.inr h3)⟩,
   h.b.trans h2.b, h.rc, h.rw, h.rl, h.br⟩
def RunTell (W : World) (base L : Nat) (fc fw : Nat → Prop) (T : SL × Rn × Int) (e : Ending) (w' : World) : Prop :=
  e = .returned (.tuple #[.agg #[i64 T.2.1.p, i64 T.2.1.s, i64 T.2.1.t], i64 T.2.2]) ∧ ∃ fc2, LM w' base L T.1 fc2 fw ∧ (∀ k, fc2 k → fc k ∨ W.heap.size ≤ k) ∧ Turn fc W w' ∧ Below base W w'
/-- The end of a run, seen from the world ahead of it. -/
theorem TI.tell {wf : World} (hW : Below W.heap.size W W1) (hbs : base ≤ W.heap.size) (hR : W.heap.size ≤ R) (h : TI W1 base R L most fc fw S r wr fc') (hlt : ∀ k, fc k ∨ fw k → k < W.heap.size) {v0 v1 v2 : Value} (c : Int) (hne : W.heap.size ≠ R) (hfc : ¬ fc' W.heap.size)
    (hf : wf = ((wr.setCell ⟨W.heap.size, 0, none⟩ v0).setCell ⟨W.heap.size, 1, none⟩ v1).setCell ⟨W.heap.size, 2, none⟩ v2) : RunTell W base L fc fw (S, r, c) (.returned (.tuple #[.agg #[i64 r.p, i64 r.s, i64 r.t], i64 c])) wf := by
  have hs := hW.size
  have hk : ∀ k, k ≠ W.heap.size → wf.heap[k]? = wr.heap[k]? := fun k hk => by
    rw [hf]
    exact (Below.heap_setCell _ _ _ _ hk).trans ((Below.heap_setCell _ _ _ _ hk).trans (Below.heap_setCell _ _ _ _ hk))
  have hsz : wf.heap.size = wr.heap.size := by rw [hf]; simp
  have hg : wf.os = wr.os ∧ wf.tape = wr.tape ∧ wf.output = wr.output := by
    rw [hf]
    have h1 := grown_set wr W.heap.size 0 v0
    have h2 := grown_set (wr.setCell ⟨W.heap.size, 0, none⟩ v0) W.heap.size 1 v1
    have h3 := grown_set ((wr.setCell ⟨W.heap.size, 0, none⟩ v0).setCell ⟨W.heap.size, 1, none⟩ v1) W.heap.size 2 v2
    exact ⟨h3.os.trans (h2.os.trans h1.os), h3.tape.trans (h2.tape.trans h1.tape), h3.output.trans (h2.output.trans h1.output)⟩
  refine ⟨rfl, fc', h.m.kept (fun k hk2 => hk k (fun e => ?_)) (by omega), fun k hk2 => ?_, ⟨hg.1.trans (h.t.os.trans hW.os), hg.2.1.trans (h.t.tape.trans hW.tape), hg.2.2.trans (h.t.output.trans hW.output), by have := h.t.size; omega, fun k hk2 hn => ?_⟩, ?_⟩
  · subst e
    rcases hk2 with h1 | h1
    · exact hfc h1
    · have := hlt _ (.inr h1); omega
  · rcases h.f k hk2 with h1 | h1
    · exact .inl h1
    · exact .inr (by omega)
  · refine (hk k (by omega)).trans ((h.t.block k (by omega) (fun h1 => ?_)).trans (hW.block k hk2))
    rcases h1 with h1 | h1
    · exact hn h1
    · omega
  · rw [hf]
    exact ((((hW.mono hbs).trans h.b).setCell (Nat.le_trans hbs (Nat.le_refl _)) _).setCell (Nat.le_trans hbs (Nat.le_refl _)) _).setCell (Nat.le_trans hbs (Nat.le_refl _)) _
theorem picks_no {w : Int} {l : List Int} (h : S.canN w = false) : S.picks most (w :: l) r = S.picks most l ⟨r.p, r.s + 1, r.t⟩ := if_pos h
theorem picks_over {w : Int} {l : List Int} (h : S.canN w = true) (hf : most ≤ r.p + r.t) : S.picks most (w :: l) r = (S, r, true) := (if_neg (by rw [h]; decide)).trans (if_pos hf)
theorem picks_yes {w : Int} {l : List Int} (h : S.canN w = true) (hf : ¬ most ≤ r.p + r.t) : S.picks most (w :: l) r = (S.stepN w).picks most l ⟨r.p + 1, r.s, r.t⟩ := (if_neg (by rw [h]; decide)).trans (if_neg hf)
def ints64 (l : List Int) : List Value := l.map (fun x => i64 x)
theorem run_nil (v : Value) (most : Int) (W : World) : Calls Try.prog 11 #[.nilIface, v, i64 most] W fun e w' => e = .returned (.tuple #[.agg #[i64 0, i64 0, i64 0], i64 2]) ∧ Below W.heap.size W w' := by
  go_enter Try.func11, Try.ntmps11
  go_wp2
  have HRB : Hid (ranBlk (W.alloc (.cells #[i64 0, i64 0, i64 0] 40)) W.heap.size) := heap_alloc_new W _
  obtain ⟨e0, e1, e2, ef, el⟩ := ran_facts HRB.out
  refine bodyPost_ret (v := .tuple #[.agg #[i64 0, i64 0, i64 0], i64 2]) (by simp [results, Try.results11, go_sem, e0, e1, e2]) rfl ⟨rfl, ?_⟩
  have hb0 : Below W.heap.size W (W.alloc (.cells #[i64 0, i64 0, i64 0] 40)) := (Below.refl _ _).alloc (Nat.le_refl _) _
  exact hb0

set_option maxRecDepth 100000 in
set_option maxHeartbeats 8000000 in
theorem run_any (H : LM W base L S fc fw) (ps : List Int) (p : Option Addr) (c : Nat) (hc : ps.length ≤ c) (hm : c ≤ maxLen) (hrow : Row W p (ints64 ps)) (hpf : ps ≠ [] → ∀ q, p = some q → ¬ fc q.block) (hps : ps.length ≤ 65536) (h0 : 0 ≤ most) (h1 : most ≤ 1099511627776) :
    Calls Try.prog 11 #[mi L, .slice p ps.length c, i64 most] W (RunTell W base L fc fw (S.run ps most)) := by
  obtain ⟨U, hU⟩ : ∃ U, U = S.picks most ps ⟨0, 0, 0⟩ := ⟨_, rfl⟩
  obtain ⟨T, hT⟩ : ∃ T, T = S.run ps most := ⟨_, rfl⟩
  have HT1 : Hid (U.2.2 = true → T = (U.1, U.2.1, 251)) := fun h => by
    rw [hT]; unfold SL.run
    rw [if_neg (by omega), if_neg (by omega), ← hU]
    obtain ⟨a, b, d⟩ := U
    have h' : d = true := h
    subst h'; rfl
  have HT2 : Hid (U.2.2 = false → T = SL.tail most (U.1.left + 1) U.1 U.2.1) := fun h => by
    rw [hT]; unfold SL.run
    rw [if_neg (by omega), if_neg (by omega), ← hU]
    obtain ⟨a, b, d⟩ := U
    have h' : d = false := h
    subst h'; rfl
  rw [← hT]
  clear hT
  have HLT := hid H.lt
  have HBS : Hid (base ≤ W.heap.size) := by obtain ⟨_, _, _, _, _, _, _, _, _, hh, _⟩ := H; exact hh.bs
  have hB : Below W.heap.size W ((W.alloc (.cells #[i64 0, i64 0, i64 0] 40)).alloc (.cells #[mi L, i64 0, i64 0, i64 0, i64 most] 79)) := ((Below.refl _ _).alloc (Nat.le_refl _) _).alloc (by simp) _
  have HB := hid hB
  have HTI0 : Hid (TI ((W.alloc (.cells #[i64 0, i64 0, i64 0] 40)).alloc (.cells #[mi L, i64 0, i64 0, i64 0, i64 most] 79)) base (W.heap.size + 1) L most fc fw S ⟨0, 0, 0⟩ ((W.alloc (.cells #[i64 0, i64 0, i64 0] 40)).alloc (.cells #[mi L, i64 0, i64 0, i64 0, i64 most] 79)) fc) :=
    TI.start (H.below hB) (by have := heap_alloc_new (W.alloc (.cells #[i64 0, i64 0, i64 0] 40)) (.cells #[mi L, i64 0, i64 0, i64 0, i64 most] 79); rw [World.size_alloc] at this; exact this) (fun h => by have := HLT.out _ (.inl h); omega) (fun h => by have := HLT.out _ (.inr h); omega) (by have := HBS.out; omega)
  obtain ⟨W1, hW1⟩ : ∃ W1, W1 = (W.alloc (.cells #[i64 0, i64 0, i64 0] 40)).alloc (.cells #[mi L, i64 0, i64 0, i64 0, i64 most] 79) := ⟨_, rfl⟩
  have HRB : Hid (ranBlk W1 W.heap.size) := by
    rw [hW1]
    exact (Below.heap_alloc _ _ _ (by simp)).trans (heap_alloc_new W _)
  have hsz1 : W1.heap.size = W.heap.size + 2 := by rw [hW1]; simp
  rw [← hW1] at HTI0 HB hB
  have HKP : Hid (∀ (S : SL) (r : Rn) (wr : World) (fc' : Nat → Prop), TI W1 base (W.heap.size + 1) L most fc fw S r wr fc' → ranBlk wr W.heap.size ∧ ¬ fc' W.heap.size ∧ Row wr p (ints64 ps) ∧ W.heap.size + 1 < wr.heap.size) :=
    fun S r wr fc' hh => ⟨hh.keep (by omega) (fun hk => by have := HLT.out _ (.inl hk); omega) (by omega) HRB.out, fun hk => by
      rcases hh.f _ hk with h3 | h3
      · have := HLT.out _ (.inl h3); omega
      · omega, row_blk hrow (fun hne q e => by
        obtain ⟨b, o, e2, hcc⟩ := hrow hne
        rw [e] at e2; injection e2 with e2
        have hlt : q.block < W.heap.size := by
          rw [e2]
          have := hcc 0 (by cases hx : ints64 ps with | nil => exact absurd hx hne | cons _ _ => simp)
          exact World.block_lt_of_cell? W _ this
        exact (hh.t.block _ (by omega) (fun h3 => by
          rcases h3 with h3 | h3
          · exact hpf (fun e3 => hne (by rw [e3]; rfl)) q e h3
          · omega)).trans (hB.block _ hlt)), by have := hh.t.size; omega⟩
  have HU := hid hU
  have HHB := hid (And.intro h0 h1)
  clear H hrow hpf hB hU
  unfold maxLen at hm
  have k4 := m_step
  have hl1 : ps.length < 140737488355328 := by omega
  go_enter Try.func11, Try.ntmps11
  unfold mi at *
  go_wp2_with fail
  obtain ⟨wz, hwz⟩ : ∃ wz, wz = W1 := ⟨_, rfl⟩
  rw [← hW1, ← hwz]
  go_loopw [34] (fun i wx => ∃ (k : Nat) (S3 : SL) (r3 : Rn) (fc3 : Nat → Prop), k ≤ ps.length ∧ i = .int .i64 k ∧ TI W1 base (W.heap.size + 1) L most fc fw S3 r3 wx fc3 ∧ S3.picks most (ps.drop k) r3 = U ∧ 0 ≤ r3.p ∧ 0 ≤ r3.s ∧ r3.s ≤ k ∧ r3.t = 0 ∧ r3.p ≤ 1099511627776) (fun i _ => ps.length - (intOf i).toNat)
  case atStart => exact ⟨0, S, ⟨0, 0, 0⟩, fc, Nat.zero_le _, rfl, by rw [hwz]; exact HTI0.out, by rw [List.drop_zero]; exact HU.out.symm, by show (0 : Int) ≤ 0; omega, by show (0 : Int) ≤ 0; omega, by show (0 : Int) ≤ _; omega, rfl, by show (0 : Int) ≤ _; omega⟩
  case round =>
    clear HTI0 HRB HU hwz hW1
    obtain ⟨k, S3, r3, fc3, hk, rfl, hti, hpk, q1, q2, q3, q4, q5⟩ := hrel
    have HTI := hid hti
    have HTB := hid (fun (w' : World) (hb : Below wr.heap.size wr w') => hti.below hb)
    obtain ⟨hrk, hfk, hrow, hgt⟩ := HKP.out _ _ _ _ hti
    obtain ⟨a0, a1, a2, a3, a4, af, al⟩ := hti.n.cells
    unfold mi at a0
    by_cases hlt : k < ps.length
    · have hltI : (k : Int) < ps.length := by omega
      obtain ⟨g, o, rfl, hbz, hcs⟩ := hrow.at (by unfold ints64; rw [List.length_map]; omega)
      have hcell := hcs k (by unfold ints64; rw [List.length_map]; exact hlt)
      unfold ints64 at hcell
      simp only [List.getElem_map] at hcell
      have HAB := hid (able_any hti.m ps[k])
      rw [List.drop_eq_getElem_cons hlt] at hpk
      obtain ⟨x, hx⟩ : ∃ x, x = ps[k] := ⟨_, rfl⟩
      rw [← hx] at hcell HAB hpk
      unfold mi at HAB
      clear hti hrk hrow hcs
      cases hc : S3.canN x
      · rw [picks_no hc] at hpk
        rw [hc] at HAB
        have HPK := hid hpk
        clear hc hpk hx
        go_wp2_with (go_at_call 31; (with_reducible refine HAB.out.mono ?_); rintro e w5 ⟨rfl, hb5⟩; have HTI5 := hid (HTB.out _ hb5); obtain ⟨b0, b1, b2, b3, b4, bf, bl⟩ := HTI5.out.n.cells; clear hb5)
        go_roundw
        case rel => exact ⟨k + 1, S3, ⟨r3.p, r3.s + 1, r3.t⟩, fc3, by omega, by go_num, HTI5.out.setS, HPK.out, q1, by show 0 ≤ r3.s + 1; omega, by show r3.s + 1 ≤ _; omega, q4, q5⟩
        case measure => simp [intOf]; omega
      · rw [hc] at HAB
        have HFL := hid (fun (w' : World) (hb : Below wr.heap.size wr w') => full_any (HTB.out w' hb).n q1 (by omega) (by omega))
        by_cases hov : most ≤ r3.p + r3.t
        · rw [picks_over hc hov] at hpk
          have hd : decide (most ≤ r3.p + r3.t) = true := decide_eq_true hov
          rw [hd] at HFL
          have HPK := hid hpk
          clear hc hpk hx hov hd
          go_wp2_with (first
            | (go_at_call 31; (with_reducible refine HAB.out.mono ?_); rintro e w5 ⟨rfl, hb5⟩; have HB5 := hid hb5; clear hb5)
            | (go_at_call 32; (with_reducible refine (HFL.out _ HB5.out).mono ?_); rintro e w6 ⟨rfl, q6, rfl⟩; have HTI6 := hid (HTB.out _ (below_drewN HB5.out q6)); have HRB6 := hid (HKP.out _ _ _ _ HTI6.out); obtain ⟨b0, b1, b2, b3, b4, bf, bl⟩ := HTI6.out.n.cells; obtain ⟨e0, e1, e2, ef, el⟩ := ran_facts HRB6.out.1))
          have hT : T = (S3, r3, 251) := by
            have h := HT1.out
            rw [← HPK.out] at h
            exact h rfl
          rw [hT]
          exact bodyPost_ret (v := .tuple #[.agg #[i64 r3.p, i64 r3.s, i64 r3.t], i64 251]) (by simp [results, Try.results11, go_sem, e0, e1, e2, q4]) rfl (HTI6.out.tell HB.out HBS.out (by omega) HLT.out 251 (by omega) HRB6.out.2.1 rfl)
        · rw [picks_yes hc hov] at hpk
          have hd : decide (most ≤ r3.p + r3.t) = false := decide_eq_false hov
          rw [hd] at HFL
          have HPK := hid hpk
          have HST := hid (fun (w' : World) (hb : Below wr.heap.size wr w') => lstep_any (HTB.out w' hb).m x)
          have hp1 : r3.p + 1 ≤ 1099511627776 := by omega
          clear hc hpk hx hov hd
          go_wp2_with (first
            | (go_at_call 31; (with_reducible refine HAB.out.mono ?_); rintro e w5 ⟨rfl, hb5⟩; have HB5 := hid hb5; clear hb5)
            | (go_at_call 32; (with_reducible refine (HFL.out _ HB5.out).mono ?_); rintro e w6 ⟨rfl, q6, rfl⟩; have HB6 := hid (below_drewN HB5.out q6); have HTI6 := hid (HTB.out _ HB6.out); obtain ⟨b0, _⟩ := HTI6.out.n.cells; unfold mi at b0)
            | (go_at_call 24; (with_reducible refine (HST.out _ HB6.out).mono ?_); rintro e w7 hls; obtain ⟨fc4, ht7⟩ := HTI6.out.step hls; obtain ⟨rfl, _⟩ := hls; have HTI7 := hid ht7; obtain ⟨d0, d1, d2, d3, d4, df, dl⟩ := ht7.n.cells; unfold mi at d0; clear ht7 b0))
          go_roundw
          case rel => exact ⟨k + 1, S3.stepN x, ⟨r3.p + 1, r3.s, r3.t⟩, fc4, by omega, by go_num, HTI7.out.setP, HPK.out, by show 0 ≤ r3.p + 1; omega, q2, by show r3.s ≤ _; omega, q4, hp1⟩
          case measure => simp [intOf]; omega
    · have hkl : k = ps.length := by omega
      rw [hkl, List.drop_length] at hpk
      have hpk : (S3, r3, false) = U := hpk
      rw [← hpk] at HT2
      have hT := HT2.out rfl
      dsimp only at hT
      have HTL := hid (tail_any hti.m hti.n hti.rc' hti.rw hti.br q1 (by omega) (by omega) HHB.out.2 (S3.left + 1) (Nat.lt_succ_self _))
      rw [← hT] at HTL
      clear hpk hT hkl hti hrow hrk
      go_wp2_with (go_at_call 33; (with_reducible refine HTL.out.mono ?_); rintro e w5 ⟨rfl, fc5, ht5⟩; have HTI5 := hid (HTI.out.trans ht5); have HRB5 := hid (HKP.out _ _ _ _ HTI5.out); obtain ⟨e0, e1, e2, ef, el⟩ := ran_facts HRB5.out.1; clear ht5)
      exact bodyPost_ret (v := .tuple #[.agg #[i64 T.2.1.p, i64 T.2.1.s, i64 T.2.1.t], i64 T.2.2]) (by simp [results, Try.results11, go_sem, e0, e1, e2]) rfl (HTI5.out.tell HB.out HBS.out (by omega) HLT.out T.2.2 (by omega) HRB5.out.2.1 rfl)
end Go.Proofs.Ythmockfeffikjaa
