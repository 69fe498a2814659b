/-
  The setup that SchedEnds makes: its cells, and what its workers do.
  The law's own live.
-/
import Derived.Test.YthmockfeffikjaaJE24
import Derived.Test.YthmockfeffikjaaJE26
namespace Go.Proofs.Ythmockfeffikjaa
open Go.RowKit
variable {W w Wx wr w2 w3 w4 : World} {X : Nat} {dv av wv v' cv pv : Value} {work : List (List Ac)} {k : Nat} {ws : List (Option Addr × Nat)}

def lk0 : CeR := ⟨lk (-1), none, 0⟩
theorem lk0_x (n : Nat) : (List.replicate n lk0).map CeR.x = List.replicate n (lk (-1)) := by simp [lk0]
theorem lk0_snoc (n : Nat) : ceRow (List.replicate n lk0) ++ CeR.cells lk0 = ceRow (List.replicate (n + 1) lk0) := by rw [List.replicate_succ']; simp [ceRow]
/-- The first k cells, gathered in the setup at X. -/
structure CLI (Wx : World) (X : Nat) (pv : Value) (k : Nat) (wr : World) (cv : Value) : Prop where
  head : wr.heap[X]? = some (.cells #[cv, .slice none 0 0, pv] 28 (0, 0))
  own : wr.ownsRow Wx.heap.size 30 7 cv k (ceRow (List.replicate k lk0))
  turn : Turn (fun j => j = X) Wx wr
theorem CLI.push (H : CLI Wx X pv k wr cv) (hX : X < Wx.heap.size) (hB : Below wr.heap.size wr w2)
    (hown : w3.ownsRow Wx.heap.size 30 7 v' (k + 1) (ceRow (List.replicate k lk0) ++ CeR.cells lk0)) (hg : w2.grownBy w3 cv.ownBlock) (hst : Stayed w2 cv v')
    (h4d : w4.heap[X]? = some (.cells #[v', .slice none 0 0, pv] 28 (0, 0))) (h4 : ∀ j, j ≠ X → w4.heap[j]? = w3.heap[j]?) (h4s : w4.heap.size = w3.heap.size) (h4o : w4.os = w3.os ∧ w4.tape = w3.tape ∧ w4.output = w3.output) :
    CLI Wx X pv (k + 1) w4 v' := by
  have hs1 := H.turn.size
  have hs2 := hB.size
  have hs3 := hg.size
  have hwb := own_ge H.own
  have hvb := own_ge hown
  refine ⟨h4d, ?_, ⟨?_, ?_, ?_, by omega, fun j hj hn => ?_⟩⟩
  · rw [← lk0_snoc]
    exact own_blk hown (fun g hg' => h4 g (by have := hvb g hg'; omega))
  · rw [h4o.1, hg.os, hB.os, H.turn.os]
  · rw [h4o.2.1, hg.tape, hB.tape, H.turn.tape]
  · rw [h4o.2.2, hg.output, hB.output, H.turn.output]
  · have hn : j ≠ X := hn
    exact (h4 j hn).trans ((hg.block j (by omega) (fun e => by have := hwb _ e.symm; omega)).trans ((hB.block j (by omega)).trans (H.turn.block j hj hn)))
theorem CLI.below {base : Nat} (H : CLI Wx X pv k wr cv) (hb : Below base w Wx) (hX : base ≤ X) (hs : base ≤ w.heap.size) : Below base w wr :=
  ⟨H.turn.os.trans hb.os, H.turn.tape.trans hb.tape, H.turn.output.trans hb.output, Nat.le_trans hb.size H.turn.size, fun j hj => (H.turn.block j (by have := hb.size; omega) (show ¬ j = X by omega)).trans (hb.block j hj)⟩
theorem cli_start (h : Wx.heap[X]? = some (.cells #[.slice none 0 0, .slice none 0 0, pv] 28 (0, 0))) : CLI Wx X pv 0 Wx (.slice none 0 0) :=
  ⟨h, World.ownsRow_nil _ _ _ _, ⟨rfl, rfl, rfl, Nat.le_refl _, fun _ _ _ => rfl⟩⟩

/-- What the first k workers do, gathered in the setup at X. -/
structure SUP (Wx : World) (X : Nat) (dv av : Value) (work : List (List Ac)) (k : Nat) (wr : World) (wv : Value) (ws : List (Option Addr × Nat)) : Prop where
  head : wr.heap[X]? = some (.cells #[dv, wv, av] 28 (0, 0))
  own : wr.ownsRow Wx.heap.size 32 1 wv k (wkCells ws (work.take k))
  len : ws.length = k
  each : ∀ i (h1 : i < ws.length) (h2 : i < work.length), AcAt wr ws[i] work[i]
  blk : ∀ i (h1 : i < ws.length), ∀ q, ws[i].1 = some q → Wx.heap.size ≤ q.block ∧ q.block < wr.heap.size ∧ wv.ownBlock ≠ some q.block
  turn : Turn (fun j => j = X) Wx wr
theorem SUP.push (hk : k < work.length) (H : SUP Wx X dv av work k wr wv ws) (hX : X < Wx.heap.size) (hB : Below wr.heap.size wr w2) {q : Option Addr} {c : Nat} (hq : AcAt w2 (q, c) work[k]) (hqb : ∀ a, q = some a → wr.heap.size ≤ a.block ∧ a.block < w2.heap.size)
    (hown : w3.ownsRow Wx.heap.size 32 1 v' (k + 1) (wkCells ws (work.take k) ++ [.slice q work[k].length c])) (hg : w2.grownBy w3 wv.ownBlock) (hst : Stayed w2 wv v')
    (h4d : w4.heap[X]? = some (.cells #[dv, v', av] 28 (0, 0))) (h4 : ∀ j, j ≠ X → w4.heap[j]? = w3.heap[j]?) (h4s : w4.heap.size = w3.heap.size) (h4o : w4.os = w3.os ∧ w4.tape = w3.tape ∧ w4.output = w3.output) :
    SUP Wx X dv av work (k + 1) w4 v' (ws ++ [(q, c)]) := by
  have hs1 := H.turn.size
  have hs2 := hB.size
  have hs3 := hg.size
  have hwb := own_ge H.own
  have hwl := own_lt H.own
  have hvb := own_ge hown
  have near : ∀ j, j < w2.heap.size → j ≠ X → wv.ownBlock ≠ some j → w4.heap[j]? = w2.heap[j]? := fun j hj hjd hjv => (h4 j hjd).trans (hg.block j hj (fun e => hjv e.symm))
  refine ⟨h4d, ?_, by simp [H.len], fun i h1 h2 => ?_, fun i h1 a e => ?_, ⟨?_, ?_, ?_, by omega, fun j hj hn => ?_⟩⟩
  · rw [take_succ work k hk, wkCells_snoc ws (work.take k) (q, c) work[k] (by rw [H.len]; simp; omega)]
    exact own_blk hown (fun g hg' => h4 g (by have := hvb g hg'; omega))
  · by_cases hi : i < ws.length
    · rw [List.getElem_append_left hi]
      obtain ⟨a1, a2, a3, a4⟩ := H.each i hi h2
      refine ⟨a1, a2, a3, row_blk a4 (fun _ a e => ?_)⟩
      have hb := H.blk i hi a e
      exact (near _ (by omega) (by omega) hb.2.2).trans (hB.block _ hb.2.1)
    · have hik : i = k := by have := H.len; simp at h1; omega
      subst hik
      rw [List.getElem_append_right (by have := H.len; omega)]
      simp only [H.len, Nat.sub_self, List.getElem_cons_zero]
      obtain ⟨a1, a2, a3, a4⟩ := hq
      refine ⟨a1, a2, a3, row_blk a4 (fun _ a e => ?_)⟩
      have hb := hqb a e
      exact near _ (by omega) (by omega) (fun e2 => by have := hwl _ e2; omega)
  · by_cases hi : i < ws.length
    · rw [List.getElem_append_left hi] at e
      have hb := H.blk i hi a e
      refine ⟨hb.1, by omega, fun e2 => ?_⟩
      rcases hst _ e2 with h | h
      · exact hb.2.2 h
      · omega
    · have hik : i = ws.length := by simp at h1; omega
      subst hik
      rw [List.getElem_append_right (Nat.le_refl _)] at e
      simp only [Nat.sub_self, List.getElem_cons_zero] at e
      have hb := hqb a e
      refine ⟨by omega, by omega, fun e2 => ?_⟩
      rcases hst _ e2 with h | h
      · have := hwl _ h; omega
      · omega
  · rw [h4o.1, hg.os, hB.os, H.turn.os]
  · rw [h4o.2.1, hg.tape, hB.tape, H.turn.tape]
  · rw [h4o.2.2, hg.output, hB.output, H.turn.output]
  · have hn : j ≠ X := hn
    exact (near j (by omega) hn (fun e2 => by have := hwb _ e2; omega)).trans ((hB.block j (by omega)).trans (H.turn.block j hj hn))
theorem SUP.below {base : Nat} (H : SUP Wx X dv av work k wr wv ws) (hb : Below base w Wx) (hX : base ≤ X) (hs : base ≤ w.heap.size) : Below base w wr :=
  ⟨H.turn.os.trans hb.os, H.turn.tape.trans hb.tape, H.turn.output.trans hb.output, Nat.le_trans hb.size H.turn.size, fun j hj => (H.turn.block j (by have := hb.size; omega) (show ¬ j = X by omega)).trans (hb.block j hj)⟩
theorem sup_start (h : Wx.heap[X]? = some (.cells #[dv, .slice none 0 0, av] 28 (0, 0))) : SUP Wx X dv av work 0 Wx (.slice none 0 0) [] :=
  ⟨h, World.ownsRow_nil _ _ _ _, rfl, fun i h1 => by simp at h1, fun i h1 => by simp at h1, ⟨rfl, rfl, rfl, Nat.le_refl _, fun _ _ _ => rfl⟩⟩

/-- The accesses that are there already, and one more. -/
theorem acRow_snoc (l : List Ac) (a : Ac) : acRow l ++ Ac.cells4 a = acRow (l ++ [a]) := by simp [acRow]
theorem acRow_nil : acRow [] = [] := rfl
/-- What a worker does, made so far: l, in memory of its own. -/
structure OWN (B : Nat) (W wr : World) (v : Value) (l : List Ac) : Prop where
  own : wr.ownsRow B 34 4 v l.length (acRow l)
  b : Below B W wr
  s : B ≤ wr.heap.size
theorem OWN.start (W : World) : OWN W.heap.size W W (.slice none 0 0) [] := ⟨World.ownsRow_nil _ _ _ _, Below.refl _ _, Nat.le_refl _⟩
theorem OWN.push {B : Nat} {v : Value} {l : List Ac} {a : Ac} {o : Obj} (H : OWN B W wr v l) (hown : w3.ownsRow B 34 4 v' (l.length + 1) (acRow l ++ Ac.cells4 a)) (hg : (wr.alloc o).grownBy w3 v.ownBlock) : OWN B W w3 v' (l ++ [a]) := by
  have hs := H.s
  have hs2 := hg.size
  have hb2 : Below B W (wr.alloc o) := H.b.alloc hs o
  refine ⟨?_, hb2.grown hg (by simp; omega) (own_ge H.own), by simp at hs2; omega⟩
  rw [List.length_append, List.length_singleton, ← acRow_snoc]
  exact hown
end Go.Proofs.Ythmockfeffikjaa
namespace Go.Proofs.Ythmockfeffikjaa
open Go.RowKit
def liveC : List Ce := [⟨2, 0, -1, 0, [], 0, false⟩]
def liveW : List (List Ac) := [[⟨3, 0, 0, 0⟩, ⟨4, 0, 0, 0⟩], [⟨3, 0, 0, 0⟩, ⟨4, 0, 0, 0⟩]]
theorem live_E : nlE liveC liveW = 0 := by decide
theorem live_run : ((nl0 liveC liveW).run [0, 1, 1] 99).2.1.p = 1 ∧ ((nl0 liveC liveW).run [0, 1, 1] 99).2.1.s = 2 ∧ ((nl0 liveC liveW).run [0, 1, 1] 99).2.1.t = 3 ∧ ((nl0 liveC liveW).run [0, 1, 1] 99).2.2 = 0 ∧ ((nl0 liveC liveW).run [0, 1, 1] 99).1.finN = true := by decide
theorem live_runs {W : World} {base L : Nat} {fc fw : Nat → Prop} (h : LM W base L (nl0 liveC liveW) fc fw) :
    Calls Try.prog 11 #[.iface 35 (.pointer (some ⟨L, 0, none⟩)), .slice (some ⟨W.heap.size, 0, none⟩) 3 3, i64 99] (W.alloc (.cells #[i64 0, i64 1, i64 1] 3)) fun e w' => e = .returned (.tuple #[.agg #[i64 1, i64 2, i64 3], i64 0]) ∧ (∀ w3, Below w'.heap.size w' w3 → Calls Try.prog 12 #[.iface 35 (.pointer (some ⟨L, 0, none⟩))] w3 fun e w4 => e = .returned (.bool true) ∧ Below w3.heap.size w3 w4) ∧ Below base W w' := by
  have hb : Below W.heap.size W (W.alloc (.cells #[i64 0, i64 1, i64 1] 3)) := (Below.refl _ _).alloc (Nat.le_refl _) _
  have hbs : base ≤ W.heap.size := by obtain ⟨_, _, _, _, _, _, _, _, _, hh, _⟩ := h; exact hh.bs
  have h1 := run_any (most := 99) (h.below hb) [0, 1, 1] (some ⟨W.heap.size, 0, none⟩) 3 (Nat.le_refl _) (by decide) (row_new W (ints64 [0, 1, 1]) 3) (fun _ q e hq => by
    injection e with e
    have := h.lt _ (.inl hq)
    rw [← e] at this
    exact absurd this (Nat.lt_irrefl _)) (by simp) (by decide) (by decide)
  refine h1.mono ?_
  rintro e w' ⟨rfl, fc2, g1, g2, g3, g4⟩
  obtain ⟨e1, e2, e3, e4, e5⟩ := live_run
  refine ⟨by rw [e1, e2, e3, e4], fun w3 hb3 => ?_, (hb.mono hbs).trans g4⟩
  have h2 := fin_any (g1.below hb3)
  rw [e5] at h2
  exact h2
set_option maxHeartbeats 4000000 in
theorem live_any (w : World) : Calls Try.prog 9 #[] w fun e w' => e = .returned (.bool true) ∧ Below w.heap.size w w' := by
  have HRN := hid live_run
  obtain ⟨wA, hA⟩ : ∃ x, x = w.alloc (.cells #[i64 3, i64 0, i64 0, i64 0, i64 4, i64 0, i64 0, i64 0] 34) := ⟨_, rfl⟩
  obtain ⟨wB, hB⟩ : ∃ x, x = wA.alloc (.cells #[i64 2, i64 0, i64 (-1), i64 0, .slice none 0 0, i64 0, .bool false] 30) := ⟨_, rfl⟩
  obtain ⟨wC, hC⟩ : ∃ x, x = wB.alloc (.cells #[.slice (some ⟨w.heap.size, 0, none⟩) 2 2, .slice (some ⟨w.heap.size, 0, none⟩) 2 2] 32) := ⟨_, rfl⟩
  have hzA : wA.heap.size = w.heap.size + 1 := by rw [hA]; simp
  have hzB : wB.heap.size = w.heap.size + 2 := by rw [hB]; simp [hzA]
  have hbC : Hid (Below w.heap.size w wC) := by
    rw [hC, hB, hA]
    exact (((Below.refl _ _).alloc (Nat.le_refl _) _).alloc (by simp) _).alloc (by simp; omega) _
  have hAC : Below wA.heap.size wA wC := by
    rw [hC, hB]
    exact ((Below.refl _ _).alloc (Nat.le_refl _) _).alloc (by simp) _
  have hBC : Below wB.heap.size wB wC := by
    rw [hC]
    exact (Below.refl _ _).alloc (Nat.le_refl _) _
  have hr1 : Row wC (some ⟨w.heap.size + 1, 0, none⟩) (ceRow [⟨⟨2, 0, -1, 0, [], 0, false⟩, none, 0⟩]) := by
    have h := row_newAt wA (ceRow [⟨⟨2, 0, -1, 0, [], 0, false⟩, none, 0⟩]) 30 (w.heap.size + 1) hzA.symm
    have h2 : Row wB (some ⟨w.heap.size + 1, 0, none⟩) (ceRow [⟨⟨2, 0, -1, 0, [], 0, false⟩, none, 0⟩]) := by rw [hB]; exact h
    exact h2.below hBC
  have hr0 : Row wC (some ⟨w.heap.size, 0, none⟩) (acRow [⟨3, 0, 0, 0⟩, ⟨4, 0, 0, 0⟩]) := by
    have h2 : Row wA (some ⟨w.heap.size, 0, none⟩) (acRow [⟨3, 0, 0, 0⟩, ⟨4, 0, 0, 0⟩]) := by rw [hA]; exact row_newAt w (acRow [⟨3, 0, 0, 0⟩, ⟨4, 0, 0, 0⟩]) 34 _ rfl
    exact h2.below hAC
  have hr2 : Row wC (some ⟨w.heap.size + 1 + 1, 0, none⟩) (wkCells [(some ⟨w.heap.size, 0, none⟩, 2), (some ⟨w.heap.size, 0, none⟩, 2)] liveW) := by
    rw [hC]
    exact row_newAt wB (wkCells [(some ⟨w.heap.size, 0, none⟩, 2), (some ⟨w.heap.size, 0, none⟩, 2)] liveW) 32 _ hzB.symm
  have hac : AcAt wC (some ⟨w.heap.size, 0, none⟩, 2) [⟨3, 0, 0, 0⟩, ⟨4, 0, 0, 0⟩] := ⟨Nat.le_refl _, (by show 2 ≤ maxLen; decide), by simp, hr0⟩
  have HNL : Hid (Calls Try.prog 10 #[.slice (some ⟨w.heap.size + 1, 0, none⟩) 1 1, .slice (some ⟨w.heap.size + 1 + 1, 0, none⟩) 2 2] wC (NLTell wC liveC liveW)) :=
    newlists_any (some ⟨w.heap.size + 1, 0, none⟩) 1 [⟨⟨2, 0, -1, 0, [], 0, false⟩, none, 0⟩] wC (Nat.le_refl _) (by decide) hr1 (fun z hz => by
      rw [List.mem_singleton.1 hz]
      exact ⟨Nat.le_refl _, Nat.zero_le _, fun _ => rfl, Row.nil _ _⟩) (fun z hz => by rw [List.mem_singleton.1 hz]; exact Nat.zero_le _)
      (some ⟨w.heap.size + 1 + 1, 0, none⟩) 2 [(some ⟨w.heap.size, 0, none⟩, 2), (some ⟨w.heap.size, 0, none⟩, 2)] liveW (fun _ => True)
      ⟨hr2, ⟨Nat.le_refl _, by decide⟩, rfl, fun i h1 h2 => by
        match i, h1 with
        | 0, _ => exact hac
        | 1, _ => exact hac, fun _ _ _ => trivial, fun _ _ _ _ _ _ => trivial⟩ (fun l hl => by
        simp [liveW] at hl
        rw [hl]; simp)
  clear hr0 hr1 hr2 hac hAC hBC hzA hzB
  subst hC hB hA
  unfold NLTell at HNL
  go_enter Try.func9, Try.ntmps9
  go_wp2_with (first
    | (go_at_call 10; (with_reducible refine HNL.out.mono ?_); rintro e w1 hnt; have hnt2 := hnt.resolve_right (fun h => h.1 live_E); obtain ⟨_, L, fc, fw, rfl, hlm, hff, hb1⟩ := hnt2; have HLM := hid hlm; have HFF := hid hff; have HB1 := hid (hbC.out.trans (hb1.mono hbC.out.size)); have HRU := hid (live_runs hlm); have hbs1 : w.heap.size ≤ w1.heap.size := (by have := hb1.size; have h3 := hbC.out.size; omega); have HWK : Hid (Calls Try.prog 25 #[.pointer (some ⟨L, 0, none⟩)] w1 fun e w' => e = .returned (i64 2) ∧ w1 = w') := lworkers_any hlm; clear hnt hlm hff hb1)
    | (go_at_call 25; (with_reducible refine HWK.out.mono ?_); rintro e w' ⟨rfl, rfl⟩)
    | (go_at_call 11; (with_reducible refine HRU.out.mono ?_); rintro e w2 ⟨rfl, hfin2, hb2⟩; have HFN := hid hfin2; have HB2 := hid (HB1.out.trans (hb2.mono hbC.out.size)); clear hfin2 hb2)
    | (go_at_call 12; (with_reducible refine (HFN.out _ ((Below.refl _ _).alloc (Nat.le_refl _) _)).mono ?_); rintro e w4 ⟨rfl, hb4⟩; have HB4 := hid hb4; clear hb4))
  go_ret
  exact ⟨ret_bool rfl, HB2.out.trans ((((Below.refl _ _).alloc (Nat.le_refl _) _).trans (HB4.out.mono (by simp))).mono HB2.out.size)⟩
end Go.Proofs.Ythmockfeffikjaa
