/-
  The document's machine of lists in memory.
  Waits and Can of the document's machine of lists.
  Step of the document's machine of lists.
-/
import Derived.Test.YthmockfeffikjaaJE19
import Derived.Test.YthmockfeffikjaaJK0
import Derived.Test.YthmockfeffikjaaJE21
namespace Go.Proofs.Ythmockfeffikjaa
open Go.RowKit
variable {W W' : World} {base R dm tb : Nat} {S : SL} {fm fs fw fc : Nat → Prop} {wp ap : Option Addr} {wc ac : Nat} {ws : List (Option Addr × Nat)} {cs : List Value}

/-- Where each worker is. -/
def atRow (said : List (List (Int × Int))) : List Value := said.map (fun l => i64 (l.length : Int))
theorem atRow_len (said : List (List (Int × Int))) : (atRow said).length = said.length := by simp [atRow]
theorem atRow_get (said : List (List (Int × Int))) (k : Nat) (h : k < said.length) : (atRow said)[k]? = some (i64 (said[k].length : Int)) := by simp [atRow, h]
def rlV (dm tb : Nat) (S : SL) (wp ap : Option Addr) (wc ac : Nat) : Obj := .cells #[.pointer (some ⟨dm, 0, none⟩), .slice wp S.work.length wc, .slice (some ⟨tb, 0, none⟩) S.said.length S.said.length, .slice ap S.said.length ac] 63 (0, 0)
structure RLIs (W : World) (base R : Nat) (S : SL) (fm fs fw : Nat → Prop) (dm tb : Nat) (wp : Option Addr) (wc : Nat) (ws : List (Option Addr × Nat)) (ap : Option Addr) (ac : Nat) (cs : List Value) : Prop where
  head : W.heap[R]? = some (rlV dm tb S wp ap wc ac)
  mem : MMach W base dm hdR S.mem fm
  wk : WorkIs W wp wc ws S.work fw
  ats : W.heap[tb]? = some (.cells (atRow S.said).toArray 3 (0, 0))
  an : AnsIs W base (.slice ap S.said.length ac) cs S.said fs
  hl : fw R
  lt : ∀ k, fw k → k < W.heap.size
  ma : ∀ k, fm k → ¬ fs k
  mw : ∀ k, fm k → ¬ fw k
  aw : ∀ k, fs k → ¬ fw k
  mt : ¬ fm tb
  st : ¬ fs tb
  tw : ¬ fw tb
  ln : S.said.length = S.work.length
  le : ∀ i (h1 : i < S.said.length) (h2 : i < S.work.length), S.said[i].length ≤ S.work[i].length
  n1 : S.work.length ≤ 64
  n2 : S.mem.cs.length ≤ 4096
  n3 : ∀ l ∈ S.work, l.length ≤ 4398046511104
  bs : base ≤ W.heap.size
  bt : base ≤ tb
/-- The document's machine of lists; fc: what turns, fw: what stays. -/
def RLM (W : World) (base R : Nat) (S : SL) (fc fw : Nat → Prop) : Prop := ∃ fm fs dm tb wp wc ws ap ac cs, RLIs W base R S fm fs fw dm tb wp wc ws ap ac cs ∧ ∀ k, fc k ↔ fm k ∨ fs k ∨ k = tb
theorem RLIs.mlt (H : RLIs W base R S fm fs fw dm tb wp wc ws ap ac cs) : ∀ k, fm k → k < W.heap.size := by obtain ⟨v, ys, h⟩ := H.mem; exact h.lt
theorem RLIs.tl (H : RLIs W base R S fm fs fw dm tb wp wc ws ap ac cs) : tb < W.heap.size := (Array.getElem?_eq_some_iff.1 H.ats).1
theorem RLIs.kept (H : RLIs W base R S fm fs fw dm tb wp wc ws ap ac cs) (hk : ∀ k, fm k ∨ fs k ∨ k = tb ∨ fw k → W'.heap[k]? = W.heap[k]?) (hs : W.heap.size ≤ W'.heap.size) : RLIs W' base R S fm fs fw dm tb wp wc ws ap ac cs :=
  ⟨(hk _ (.inr (.inr (.inr H.hl)))).trans H.head, H.mem.kept (fun k h => hk k (.inl h)) hs, H.wk.kept (fun k h => hk k (.inr (.inr (.inr h)))), (hk _ (.inr (.inr (.inl rfl)))).trans H.ats, H.an.kept (fun k h => hk k (.inr (.inl h))) hs, H.hl, fun k h => Nat.lt_of_lt_of_le (H.lt k h) hs, H.ma, H.mw, H.aw, H.mt, H.st, H.tw, H.ln, H.le, H.n1, H.n2, H.n3, Nat.le_trans H.bs hs, H.bt⟩
theorem RLIs.all (H : RLIs W base R S fm fs fw dm tb wp wc ws ap ac cs) : ∀ k, fm k ∨ fs k ∨ k = tb ∨ fw k → k < W.heap.size := by
  rintro k (h | h | h | h)
  · exact H.mlt k h
  · exact H.an.lt k h
  · rw [h]; exact H.tl
  · exact H.lt k h
theorem RLIs.below (H : RLIs W base R S fm fs fw dm tb wp wc ws ap ac cs) (hb : Below W.heap.size W W') : RLIs W' base R S fm fs fw dm tb wp wc ws ap ac cs :=
  H.kept (fun k h => hb.block k (H.all k h)) hb.size
theorem RLM.kept (H : RLM W base R S fc fw) (hk : ∀ k, fc k ∨ fw k → W'.heap[k]? = W.heap[k]?) (hs : W.heap.size ≤ W'.heap.size) : RLM W' base R S fc fw := by
  obtain ⟨fm, fs, dm, tb, wp, wc, ws, ap, ac, cs, h, hf⟩ := H
  refine ⟨fm, fs, dm, tb, wp, wc, ws, ap, ac, cs, h.kept (fun k hk2 => hk k ?_) hs, hf⟩
  rcases hk2 with h2 | h2 | h2 | h2
  · exact .inl ((hf k).2 (.inl h2))
  · exact .inl ((hf k).2 (.inr (.inl h2)))
  · exact .inl ((hf k).2 (.inr (.inr h2)))
  · exact .inr h2
theorem RLM.below (H : RLM W base R S fc fw) (hb : Below W.heap.size W W') : RLM W' base R S fc fw := by
  obtain ⟨fm, fs, dm, tb, wp, wc, ws, ap, ac, cs, h, hf⟩ := H
  exact ⟨fm, fs, dm, tb, wp, wc, ws, ap, ac, cs, h.below hb, hf⟩
theorem RLM.lt (H : RLM W base R S fc fw) : ∀ k, fc k ∨ fw k → k < W.heap.size := by
  obtain ⟨fm, fs, dm, tb, wp, wc, ws, ap, ac, cs, h, hf⟩ := H
  rintro k (hk | hk)
  · exact h.all k (by rcases (hf k).1 hk with h2 | h2 | h2; exact .inl h2; exact .inr (.inl h2); exact .inr (.inr (.inl h2)))
  · exact h.lt k hk
theorem RLIs.cells (H : RLIs W base R S fm fs fw dm tb wp wc ws ap ac cs) : W.cell? ⟨R, 0, none⟩ = some (.pointer (some ⟨dm, 0, none⟩)) ∧ W.cell? ⟨R, 1, none⟩ = some (.slice wp S.work.length wc) ∧ W.cell? ⟨R, 2, none⟩ = some (.slice (some ⟨tb, 0, none⟩) S.said.length S.said.length) ∧ W.cell? ⟨R, 3, none⟩ = some (.slice ap S.said.length ac) ∧ R < W.heap.size :=
  ⟨cell_of_row W R 0 _ _ _ H.head, cell_of_row W R 1 _ _ _ H.head, cell_of_row W R 2 _ _ _ H.head, cell_of_row W R 3 _ _ _ H.head, H.lt _ H.hl⟩
theorem at_cell {said : List (List (Int × Int))} (h : W.heap[tb]? = some (.cells (atRow said).toArray 3 (0, 0))) (k : Nat) (hk : k < said.length) : W.cell? ⟨tb, k, none⟩ = some (i64 (said[k].length : Int)) :=
  cell_of_row W tb k _ _ _ h |>.trans (by
    have := atRow_get said k hk
    simpa using this)

/-- What a worker's rows hold. -/
structure RWk (W : World) (R : Nat) (S : SL) (k : Nat) (wl : List Ac) (sl : List (Int × Int)) (tb b o wc g ac : Nat) (p1 : Option Addr) (c1 : Nat) (q1 : Option Addr) (qc : Nat) : Prop where
  lt : R < W.heap.size ∧ b < W.heap.size ∧ g < W.heap.size ∧ tb < W.heap.size
  h1 : W.cell? ⟨R, 1, none⟩ = some (.slice (some ⟨b, o, none⟩) S.work.length wc)
  h2 : W.cell? ⟨R, 2, none⟩ = some (.slice (some ⟨tb, 0, none⟩) S.said.length S.said.length)
  h3 : W.cell? ⟨R, 3, none⟩ = some (.slice (some ⟨g, 0, none⟩) S.said.length ac)
  hw : W.cell? ⟨b, o + k, none⟩ = some (.slice p1 wl.length c1)
  ht : W.cell? ⟨tb, k, none⟩ = some (i64 (sl.length : Int))
  hs : W.cell? ⟨g, k, none⟩ = some (.slice q1 sl.length qc)
  row : Row W p1 (acRow wl)
  bd : wl.length ≤ 4398046511104 ∧ sl.length ≤ wl.length ∧ S.work.length ≤ 64 ∧ S.said.length = S.work.length
theorem RLM.at (H : RLM W base R S fc fw) (k : Nat) (hk : k < S.work.length) : ∃ tb b o wc g ac p1 c1 q1 qc, RWk W R S k (S.work.getD k []) (S.said.getD k []) tb b o wc g ac p1 c1 q1 qc := by
  obtain ⟨fm, fs, dm, tb, wp, wc, ws, ap, ac, cs, h, _⟩ := H
  obtain ⟨c0, c1, c2, c3, hl⟩ := h.cells
  have hk2 : k < S.said.length := by rw [h.ln]; exact hk
  have hkw : k < ws.length := by rw [h.wk.len]; exact hk
  have hkc : k < cs.length := by rw [h.an.len]; exact hk2
  obtain ⟨g, ac', e, _, hg, _⟩ := own_block h.an.own (by omega)
  cases e
  have hwl := wkCells_len ws S.work h.wk.len
  obtain ⟨b, o, rfl, hb, hc⟩ := h.wk.row.at (by omega)
  obtain ⟨q1, qc, hq, _⟩ := own_shape (h.an.each k hkc hk2)
  have e1 : S.work.getD k [] = S.work[k] := by simp [List.getD_eq_getElem?_getD, hk]
  have e2 : S.said.getD k [] = S.said[k] := by simp [List.getD_eq_getElem?_getD, hk2]
  rw [e1, e2]
  refine ⟨tb, b, o, wc, g, ac, ws[k].1, ws[k].2, q1, qc, ⟨hl, hb, hg, h.tl⟩, c1, c2, c3, ?_, at_cell h.ats k hk2, ?_, (h.wk.each k hkw hk).2.2.2, ⟨h.n3 _ (List.getElem_mem hk), h.le k hk2 hk, h.n1, h.ln⟩⟩
  · rw [hc k (by omega)]
    have := wkCells_get ws S.work k hkw hk
    rw [List.getElem?_eq_getElem (by omega)] at this
    exact this
  · rw [(own_cell h.an.own k hkc).1, hq]

theorem RLM.r1 (H : RLM W base R S fc fw) : R < W.heap.size ∧ ∃ wp wc, W.cell? ⟨R, 1, none⟩ = some (.slice wp S.work.length wc) := by
  obtain ⟨fm, fs, dm, tb, wp, wc, ws, ap, ac, cs, h, _⟩ := H
  obtain ⟨c0, c1, c2, c3, hl⟩ := h.cells
  exact ⟨hl, wp, wc, c1⟩
def RDone (W : World) (b : Bool) (e : Ending) (w' : World) : Prop := e = .returned (.bool b) ∧ ∃ m, w' = W.drewN m
theorem rnxt_out {n : Int} (h : ¬ (0 ≤ n ∧ n < S.work.length)) : S.next n = none := by unfold SL.next; rw [if_neg h]
theorem rnxt_at {k : Nat} (h : k < S.work.length) : S.next k = (S.work.getD k [])[(S.said.getD k []).length]? := by unfold SL.next; rw [if_pos (by omega), Int.toNat_natCast]
set_option maxRecDepth 100000 in
set_option maxHeartbeats 2000000 in
theorem rdone_any (H : RLM W base R S fc fw) (n : Int) : Calls Try.prog 35 #[.pointer (some ⟨R, 0, none⟩), i64 n] W (RDone W (S.doneN n)) := by
  by_cases h : 0 ≤ n ∧ n < S.work.length
  · obtain ⟨k, rfl⟩ : ∃ k : Nat, n = k := ⟨n.toNat, by omega⟩
    have hk : k < S.work.length := by omega
    have HV : Hid (S.doneN k = decide ((S.work.getD k []).length ≤ (S.said.getD k []).length)) := by
      unfold Hid SL.doneN
      rw [rnxt_at hk]
      by_cases h2 : (S.work.getD k []).length ≤ (S.said.getD k []).length
      · rw [List.getElem?_eq_none h2]; exact (decide_eq_true h2).symm
      · rw [List.getElem?_eq_getElem (by omega)]; exact (decide_eq_false h2).symm
    obtain ⟨tb, b, o, wc, g, ac, p1, c1, q1, qc, hw⟩ := H.at k hk
    generalize S.work.getD k [] = wl at *
    generalize S.said.getD k [] = sl at *
    obtain ⟨⟨l1, l2, l3, l4⟩, k1, k2, k3, k4, k5, _, _, b1, b2, b3, b4⟩ := hw
    have hkI : (k : Int) < S.work.length := by omega
    have hk0 : ¬ ((k : Int) < 0) := by omega
    have hkG : ¬ ((S.work.length : Int) ≤ (k : Int)) := by omega
    have hk0d : decide ((k : Int) < 0) = false := decide_eq_false hk0
    have hkGd : decide ((S.work.length : Int) ≤ (k : Int)) = false := decide_eq_false hkG
    have hkS : (k : Int) < S.said.length := by omega
    have hk2 : k < S.said.length := by omega
    have hk00 : (0 : Int) ≤ (k : Int) := by omega
    clear H h b4
    by_cases h2 : wl.length ≤ sl.length
    · have h2I : (wl.length : Int) ≤ (sl.length : Int) := by omega
      have h2d : decide ((wl.length : Int) ≤ (sl.length : Int)) = true := decide_eq_true h2I
      have HV2 : Hid (S.doneN k = true) := by rw [HV.out]; simp [Hid, h2]
      go_enter Try.func35, Try.ntmps35
      go_upto_region 1 with (fail)
      go_quiet (fail)
      go_wp2_with fail
      go_ret
      exact ⟨ret_bool (by rw [HV2.out]), _, rfl⟩
    · have h2I : ¬ ((wl.length : Int) ≤ (sl.length : Int)) := by omega
      have h2d : decide ((wl.length : Int) ≤ (sl.length : Int)) = false := decide_eq_false h2I
      have HV2 : Hid (S.doneN k = false) := by rw [HV.out]; simp [Hid, h2]
      go_enter Try.func35, Try.ntmps35
      go_upto_region 1 with (fail)
      go_quiet (fail)
      go_wp2_with fail
      go_ret
      exact ⟨ret_bool (by rw [HV2.out]), _, rfl⟩
  · have HV : Hid (S.doneN n = true) := by unfold Hid SL.doneN; rw [rnxt_out h]; rfl
    obtain ⟨hl, wp, wc, c1⟩ := H.r1
    clear H
    by_cases h0 : n < 0
    · have h0d : decide (n < 0) = true := by simpa using h0
      go_enter Try.func35, Try.ntmps35
      go_upto_region 1 with (fail)
      go_quiet (fail)
      go_wp2_with fail
      go_ret
      exact ⟨ret_bool (by rw [HV.out]), _, rfl⟩
    · have h1 : (S.work.length : Int) ≤ n := by omega
      have h0d : decide (n < 0) = false := by simpa using h0
      have h1d : decide ((S.work.length : Int) ≤ n) = true := by simpa using h1
      go_enter Try.func35, Try.ntmps35
      go_upto_region 1 with (fail)
      go_quiet (fail)
      go_wp2_with fail
      go_ret
      exact ⟨ret_bool (by rw [HV.out]), _, rfl⟩
end Go.Proofs.Ythmockfeffikjaa
namespace Go.Proofs.Ythmockfeffikjaa
open Go.RowKit
variable {W W' : World} {base R dm tb : Nat} {S : SL} {fm fs fw fc : Nat → Prop}

theorem rdone_sym {b : Bool} {n : Nat} {f : FuncId} {args : Array Value} (h : Calls Try.prog f args W (RDone W b)) (hW : W = W'.drewN n) : Calls Try.prog f args (W'.drewN n) fun e w'' => e = .returned (.bool b) ∧ ∃ m, w'' = W'.drewN m := by
  subst hW
  refine h.mono ?_
  rintro e w' ⟨rfl, m, rfl⟩
  exact ⟨rfl, _, World.drewN_drewN _ _ _⟩
theorem rdone_below {b : Bool} {f : FuncId} {args : Array Value} (h : Calls Try.prog f args W (RDone W b)) : Calls Try.prog f args W fun e w' => e = .returned (.bool b) ∧ Below W.heap.size W w' := by
  refine h.mono ?_
  rintro e w' ⟨rfl, m, rfl⟩
  exact ⟨rfl, below_drewN (Below.refl _ _) _⟩
theorem acs_at {l : List Ac} {p : Option Addr} (h : Row W p (acRow l)) (k : Nat) (hk : k < l.length) : ∃ b o, p = some ⟨b, o, none⟩ ∧ b < W.heap.size ∧ W.cell? ⟨b, o + k * 4, none⟩ = some (i64 l[k].kind) ∧ W.cell? ⟨b, o + k * 4 + 1, none⟩ = some (i64 l[k].cell) ∧ W.cell? ⟨b, o + k * 4 + 2, none⟩ = some (i64 l[k].old) ∧ W.cell? ⟨b, o + k * 4 + 3, none⟩ = some (i64 l[k].new) := by
  obtain ⟨b5, o5, rfl, l5, _⟩ := h.at (by rw [acRow_len]; omega)
  exact ⟨b5, o5, rfl, l5, ac_cells h k hk⟩

set_option maxRecDepth 100000 in
set_option maxHeartbeats 2000000 in
theorem rlwaits_any (H : RLM W base R S fc fw) (n : Int) : Calls Try.prog 36 #[.pointer (some ⟨R, 0, none⟩), i64 n] W fun e w' => e = .returned (.bool (S.waitsN n)) ∧ Below W.heap.size W w' := by
  have HDN := hid (fun w' (hb : Below W.heap.size W w') => rdone_any (H.below hb) n)
  cases hn : S.next n with
  | none =>
    have HV : Hid (S.waitsN n = false) := by unfold Hid SL.waitsN; rw [hn]
    have hd : S.doneN n = true := by unfold SL.doneN; rw [hn]; rfl
    rw [hd] at HDN
    clear hn hd H
    go_enter Try.func36, Try.ntmps36
    go_upto_region 1 with (fail)
    go_quiet ((go_at_call 35; exact rdone_sym (HDN.out _ (below_drewN (Below.refl _ _) _)) rfl))
    go_wp2_with fail
    go_ret
    exact ⟨ret_bool (by rw [HV.out]), below_drewN (Below.refl _ _) _⟩
  | some a =>
    have HV : Hid (S.waitsN n = ((S.mem.look n a).2.2 == 231)) := by unfold Hid SL.waitsN; rw [hn]
    have hd : S.doneN n = false := by unfold SL.doneN; rw [hn]; rfl
    rw [hd] at HDN
    have h : 0 ≤ n ∧ n < S.work.length := by
      by_cases h : 0 ≤ n ∧ n < S.work.length
      · exact h
      · rw [rnxt_out h] at hn; cases hn
    obtain ⟨k, rfl⟩ : ∃ k : Nat, n = k := ⟨n.toNat, by omega⟩
    have hk : k < S.work.length := by omega
    rw [rnxt_at hk] at hn
    obtain ⟨hsl, hel⟩ := List.getElem?_eq_some_iff.1 hn
    obtain ⟨tb, b, o, wc, g, ac, p1, c1, q1, qc, hw⟩ := H.at k hk
    obtain ⟨fm, fs, dm, tb', wp', wc', ws', ap', ac', cs', h', _⟩ := H
    have c0 := h'.cells.1
    have HM := hid h'.mem
    generalize S.work.getD k [] = wl at *
    generalize S.said.getD k [] = sl at *
    obtain ⟨⟨l1, l2, l3, l4⟩, k1, k2, k3, k4, k5, _, hrow, b1, b2, b3, b4⟩ := hw
    obtain ⟨b5, o5, rfl, l5, r0, r1, r2, r3⟩ := acs_at hrow sl.length hsl
    rw [hel] at r0 r1 r2 r3
    have HWT := hid (fun w' (hb : Below W.heap.size W w') => rwaits_any (HM.out.below hb) (k : Int) a)
    obtain ⟨ak, acl, ao, an⟩ := a
    unfold Ac.val at HWT
    dsimp only at *
    have hkI : (k : Int) < S.work.length := by omega
    have hk0 : (0 : Int) ≤ (k : Int) := by omega
    have hkS : (k : Int) < S.said.length := by omega
    have hk2 : k < S.said.length := by omega
    have hsI : (sl.length : Int) < wl.length := by omega
    have hs0 : (0 : Int) ≤ (sl.length : Int) := by omega
    have up : ∀ w' (c j : Nat) (u : Value), Below W.heap.size W w' → c < W.heap.size → W.cell? ⟨c, j, none⟩ = some u → w'.cell? ⟨c, j, none⟩ = some u := fun w' c j u hb hl h => (hb.cell (p := ⟨c, j, none⟩) hl).trans h
    have f0 := fun w' hb => up w' _ _ _ hb l1 c0
    have f1 := fun w' hb => up w' _ _ _ hb l1 k1
    have f2 := fun w' hb => up w' _ _ _ hb l1 k2
    have f4 := fun w' hb => up w' _ _ _ hb l2 k4
    have f5 := fun w' hb => up w' _ _ _ hb l4 k5
    have g0 := fun w' hb => up w' _ _ _ hb l5 r0
    have g1 := fun w' hb => up w' _ _ _ hb l5 r1
    have g2 := fun w' hb => up w' _ _ _ hb l5 r2
    have g3 := fun w' hb => up w' _ _ _ hb l5 r3
    have hS0 : Below W.heap.size W W.drew := (Below.refl _ _).drew
    clear up h' b4 hrow c0 k1 k2 k3 k4 k5 r0 r1 r2 r3 hn hel hd h
    go_enter Try.func36, Try.ntmps36
    go_upto_region 1 with (fail)
    go_region_held3 (fun w' => Below W.heap.size W w') (first | (with_reducible assumption) | exact (Below.refl _ _).drew)
      (first
        | (go_at_call 35; (with_reducible refine (rdone_below (HDN.out _ (by first | (with_reducible assumption) | exact (Below.refl _ _).drew))).mono ?_); rintro e w6 ⟨rfl, hb6⟩; have hq6 : Below W.heap.size W w6 := below_more hb6 (by first | (with_reducible assumption) | exact (Below.refl _ _).drew) (Nat.le_refl _))
        | (go_at_call 50; (with_reducible refine (HWT.out _ (by first | (with_reducible assumption) | exact (Below.refl _ _).drew)).mono ?_); rintro e w7 ⟨rfl, hb7⟩; have hq7 : Below W.heap.size W w7 := below_more hb7 (by first | (with_reducible assumption) | exact (Below.refl _ _).drew) (Nat.le_refl _)))
    all_goals
      go_wp2_with fail
      go_ret
      exact ⟨ret_bool (by rw [HV.out]), by assumption⟩
theorem rcan_any (H : RLM W base R S fc fw) (n : Int) : Calls Try.prog 15 #[.pointer (some ⟨R, 0, none⟩), i64 n] W fun e w' => e = .returned (.bool (S.canN n)) ∧ Below W.heap.size W w' := by
  have HDN := hid (rdone_below (rdone_any H n))
  have HWN := hid (fun w' (hb : Below W.heap.size W w') => rlwaits_any (H.below hb) n)
  clear H
  cases hd : S.doneN n with
  | true =>
    have HV : Hid (S.canN n = false) := by unfold Hid SL.canN; rw [hd]; rfl
    rw [hd] at HDN
    clear hd
    go_enter Try.func15, Try.ntmps15
    go_wp2_with (go_at_call 35; (with_reducible refine HDN.out.mono ?_); rintro e w3 ⟨rfl, hb3⟩; have HB3 := hid hb3; clear hb3)
    go_ret
    exact ⟨ret_bool (by rw [HV.out]), HB3.out⟩
  | false =>
    have HV : Hid (S.canN n = !S.waitsN n) := by unfold Hid SL.canN; rw [hd]; rfl
    rw [hd] at HDN
    generalize S.waitsN n = t at HV HWN
    clear hd
    go_enter Try.func15, Try.ntmps15
    go_wp2_with (first
      | (go_at_call 35; (with_reducible refine HDN.out.mono ?_); rintro e w3 ⟨rfl, hb3⟩; have HB3 := hid hb3; clear hb3)
      | (go_at_call 36; go_loud ((with_reducible refine (HWN.out _ HB3.out).mono ?_); rintro e w4 ⟨rfl, hb4⟩; have HB4 := hid (below_tr hb4 HB3.out (Nat.le_refl _)); clear hb4)))
    go_ret
    exact ⟨ret_bool (by rw [HV.out]), HB4.out⟩
end Go.Proofs.Ythmockfeffikjaa
namespace Go.Proofs.Ythmockfeffikjaa
open Go.RowKit
variable {W W' : World} {base R dm tb : Nat} {S : SL} {fm fs fw fc : Nat → Prop}

def RStep (W : World) (base R : Nat) (S' : SL) (fc fw : Nat → Prop) (e : Ending) (w' : World) : Prop :=
  e = .returned (.tuple #[]) ∧ ∃ fc', RLM w' base R S' fc' fw ∧ (∀ k, fc' k → fc k ∨ W.heap.size ≤ k) ∧ Turn fc W w' ∧ Below base W w'
theorem RLM.bs (H : RLM W base R S fc fw) : base ≤ W.heap.size := by obtain ⟨_, _, _, _, _, _, _, _, _, _, h, _⟩ := H; exact h.bs
theorem RStep.same (H : RLM W base R S fc fw) (hb : Below W.heap.size W W') : RStep W base R S fc fw (.returned (.tuple #[])) W' :=
  ⟨rfl, fc, H.below hb, fun _ h => .inl h, Turn.of_below hb, hb.mono H.bs⟩
theorem cannot_step {n : Int} (h : S.canN n = false) : S.stepN n = S := by
  unfold SL.canN at h
  unfold SL.stepN
  cases hn : S.next n with
  | none => rfl
  | some a =>
    have hd : S.doneN n = false := by unfold SL.doneN; rw [hn]; rfl
    rw [hd] at h
    have hw : S.waitsN n = true := by simpa using h
    unfold SL.waitsN at hw
    rw [hn] at hw
    have h2 : (S.mem.look n a).2.2 = 231 := by simpa using hw
    have ht : (S.mem.tell n a).2 = 231 := by
      unfold Mem.tell
      rw [if_neg (by rw [h2]; decide)]
      exact h2
    simp only [ht, if_true]
set_option maxRecDepth 100000 in
set_option maxHeartbeats 2000000 in
theorem rlstep_none (H : RLM W base R S fc fw) (n : Int) (hn : S.canN n = false) : Calls Try.prog 16 #[.pointer (some ⟨R, 0, none⟩), i64 n] W (RStep W base R (S.stepN n) fc fw) := by
  have HN := hid (rcan_any H n)
  have HS : Hid (S.stepN n = S) := cannot_step hn
  rw [hn] at HN
  have HH := hid H
  clear hn H
  go_enter Try.func16, Try.ntmps16
  go_wp2_with (go_at_call 15; (with_reducible refine HN.out.mono ?_); rintro e w3 ⟨rfl, hb3⟩; have HB3 := hid hb3; clear hb3)
  refine bodyPost_ret (results_none rfl _ _ _) rfl ?_
  rw [HS.out]
  exact RStep.same HH.out HB3.out

/-- A step that was told something. -/
theorem rlstep_end {W1 w5 w2 w6 : World} {wp : Option Addr} {wc g ac : Nat} {ws : List (Option Addr × Nat)} {cs : List Value} {fm5 : Nat → Prop} {M : Mem}
    (h : RLIs W base R S fm fs fw dm tb wp wc ws (some ⟨g, 0, none⟩) ac cs) (hf : ∀ k, fc k ↔ fm k ∨ fs k ∨ k = tb) (hB1 : Below W.heap.size W W1) (hm5 : MMach w5 base dm hdR M fm5) (hf5 : ∀ k, fm5 k → fm k ∨ W1.heap.size ≤ k) (ht5 : Turn fm W1 w5) (hb5 : Below base W1 w5)
    (hM : M.cs.length = S.mem.cs.length) (k : Nat) (hkc : k < cs.length) (hk2 : k < S.said.length) (hk : k < S.work.length) (hle : S.said[k].length < S.work[k].length) (x : Int × Int) {q1 : Option Addr} {qc : Nat} {sl : List (Int × Int)} (hsl : S.said[k] = sl) (hck : cs[k] = .slice q1 sl.length qc)
    {n : Int} (hn : n = (sl.length : Int) + 1) (hB : Below w5.heap.size (w5.setCell ⟨tb, k, none⟩ (i64 n)) w2) {v' : Value} (hown : w6.ownsRow base 86 2 v' (sl.length + 1) (anRow sl ++ anCells x)) (hg : w2.grownBy w6 (Value.slice q1 sl.length qc).ownBlock) (hst : Stayed w2 (.slice q1 sl.length qc) v') :
    RStep W base R ⟨M, S.work, S.said.set k (sl ++ [x])⟩ fc fw (.returned (.tuple #[])) (w6.setCell ⟨g, k, none⟩ v') := by
  obtain ⟨w4, hw4⟩ : ∃ w4, w4 = w5.setCell ⟨tb, k, none⟩ (i64 n) := ⟨_, rfl⟩
  rw [← hw4] at hB
  have hs1 := hB1.size
  have hs5 := ht5.size
  have hs4 : w4.heap.size = w5.heap.size := by rw [hw4]; simp
  have hB : Below w4.heap.size w4 w2 := by rw [hs4]; exact hB
  have hs2 := hB.size
  have hs6 := hg.size
  have hsf : (w6.setCell ⟨g, k, none⟩ v').heap.size = w6.heap.size := by simp
  have hm1 := h.mlt
  have ha1 := h.an.lt
  have htl := h.tl
  have hgf : fs g := h.an.fv g rfl
  have hgl := ha1 g hgf
  have hgt : g ≠ tb := fun e => h.st (by rw [← e]; exact hgf)
  have hrow : ∀ b, (Value.slice q1 sl.length qc).ownBlock = some b → fs b := fun b e => (h.an.fc k hkc b (by rw [hck]; exact e)).1
  have set4 : ∀ j, j ≠ tb → w4.heap[j]? = w5.heap[j]? := fun j hj => by rw [hw4]; exact Below.heap_setCell _ _ _ _ hj
  have hA4 : AnsIs w4 base (.slice (some ⟨g, 0, none⟩) S.said.length ac) cs S.said fs := h.an.kept (fun j hj => (set4 j (fun e => h.st (by rw [← e]; exact hj))).trans ((ht5.block j (by have := ha1 j hj; omega) (fun hm => h.ma j hm hj)).trans (hB1.block j (ha1 j hj)))) (by omega)
  have hA7 := hA4.say k hkc hk2 x hB (by rw [hsl]; exact hown) (by rw [hck]; exact hg) (by rw [hck]; exact hst) rfl
  rw [hsl] at hA7
  have hdis : ∀ j, fm5 j → ¬ fs j ∧ ¬ fw j ∧ j ≠ tb := fun j hj => by
    rcases hf5 j hj with h1 | h1
    · exact ⟨h.ma j h1, h.mw j h1, fun e => h.mt (by rw [← e]; exact h1)⟩
    · exact ⟨fun h2 => by have := ha1 j h2; omega, fun h2 => by have := h.lt j h2; omega, by omega⟩
  have near4 : ∀ j, j < w4.heap.size → ¬ fs j → (w6.setCell ⟨g, k, none⟩ v').heap[j]? = w4.heap[j]? := fun j hj hn =>
    (Below.heap_setCell _ _ _ _ (fun e => hn (by rw [e]; exact hgf))).trans ((hg.block j (by omega) (fun e => hn (hrow j e.symm))).trans (hB.block j hj))
  have near : ∀ j, j < w5.heap.size → ¬ fs j → j ≠ tb → (w6.setCell ⟨g, k, none⟩ v').heap[j]? = w5.heap[j]? := fun j hj hn hjt => (near4 j (by omega) hn).trans (set4 j hjt)
  have far : ∀ j, j < W.heap.size → ¬ fm j → w5.heap[j]? = W.heap[j]? := fun j hj hn => (ht5.block j (by omega) hn).trans (hB1.block j hj)
  have hm5l : ∀ j, fm5 j → j < w5.heap.size := by obtain ⟨v, ys, hh⟩ := hm5; exact hh.lt
  have hos : (w6.setCell ⟨g, k, none⟩ v').os = W.os ∧ (w6.setCell ⟨g, k, none⟩ v').tape = W.tape ∧ (w6.setCell ⟨g, k, none⟩ v').output = W.output := by
    have h7 := grown_set w6 g k v'
    have h4 := grown_set w5 tb k (i64 n)
    rw [← hw4] at h4
    exact ⟨by rw [h7.os, hg.os, hB.os, h4.os, ht5.os, hB1.os], by rw [h7.tape, hg.tape, hB.tape, h4.tape, ht5.tape, hB1.tape], by rw [h7.output, hg.output, hB.output, h4.output, ht5.output, hB1.output]⟩
  refine ⟨rfl, fun j => fm5 j ∨ (fs j ∨ (w4.heap.size ≤ j ∧ j < (w6.setCell ⟨g, k, none⟩ v').heap.size)) ∨ j = tb, ⟨fm5, _, dm, tb, wp, wc, ws, some ⟨g, 0, none⟩, ac, cs.set k v', ⟨?_, ?_, ?_, ?_, ?_, h.hl, ?_, ?_, ?_, ?_, ?_, ?_, h.tw, ?_, ?_, h.n1, by rw [hM]; exact h.n2, h.n3, ?_, h.bt⟩, fun j => Iff.rfl⟩, ?_, ?_, ?_⟩
  · have hL := h.lt _ h.hl
    have hRt : R ≠ tb := fun e => h.tw (by rw [← e]; exact h.hl)
    have := (near R (by omega) (fun h1 => h.aw R h1 h.hl) hRt).trans ((far R hL (fun h1 => h.mw R h1 h.hl)).trans h.head)
    rw [this]
    unfold rlV
    rw [List.length_set]
  · exact hm5.kept (fun j hj => near j (hm5l j hj) (hdis j hj).1 (hdis j hj).2.2) (by omega)
  · exact h.wk.kept (fun j hj => (near j (by have := h.lt j hj; omega) (fun h1 => h.aw j h1 hj) (fun e => h.tw (by rw [← e]; exact hj))).trans (far j (h.lt j hj) (fun h1 => h.mw j h1 hj)))
  · refine (near4 tb (by omega) h.st).trans ?_
    have ho : w5.heap[tb]? = some (.cells (atRow S.said).toArray 3 (0, 0)) := (far tb htl h.mt).trans h.ats
    rw [hw4]
    refine heap_setCell_same w5 tb k _ _ (i64 n) ho |>.trans ?_
    congr 2
    apply Array.toList_inj.1
    simp only [Array.toList_setIfInBounds]
    unfold atRow
    rw [List.map_set, hn]
    simp
  · show AnsIs _ base (.slice (some ⟨g, 0, none⟩) (S.said.set k (sl ++ [x])).length ac) _ _ _
    rw [List.length_set]
    exact hA7
  · intro j hj
    have := h.lt j hj
    omega
  · rintro j hj (h2 | h2)
    · exact (hdis j hj).1 h2
    · have := hm5l j hj; omega
  · exact fun j hj => (hdis j hj).2.1
  · rintro j (h2 | h2) hj
    · exact h.aw j h2 hj
    · have := h.lt j hj; omega
  · exact fun hj => (hdis tb hj).2.2 rfl
  · rintro (h2 | h2)
    · exact h.st h2
    · omega
  · rw [List.length_set]; exact h.ln
  · intro i h1 h2
    rw [List.getElem_set]
    split
    · rename_i e
      subst e
      rw [List.length_append, List.length_singleton, ← hsl]; exact hle
    · exact h.le i (by rw [List.length_set] at h1; exact h1) h2
  · have := h.bs; omega
  · rintro j (h2 | (h2 | h2) | h2)
    · rcases hf5 j h2 with h3 | h3
      · exact .inl ((hf j).2 (.inl h3))
      · exact .inr (by omega)
    · exact .inl ((hf j).2 (.inr (.inl h2)))
    · exact .inr (by omega)
    · exact .inl ((hf j).2 (.inr (.inr h2)))
  · exact ⟨hos.1, hos.2.1, hos.2.2, by omega, fun j hj hn => (near j (by omega) (fun h1 => hn ((hf j).2 (.inr (.inl h1)))) (fun e => hn ((hf j).2 (.inr (.inr e))))).trans (far j hj (fun h1 => hn ((hf j).2 (.inl h1))))⟩
  · refine ⟨hos.1, hos.2.1, hos.2.2, by omega, fun j hj => ?_⟩
    have hjW : j < W.heap.size := by have := h.bs; omega
    have hng : j ≠ g := fun e => by have := own_ge h.an.own g rfl; omega
    have hnt : j ≠ tb := fun e => by have := h.bt; omega
    have hnr : (Value.slice q1 sl.length qc).ownBlock ≠ some j := fun e => by
      have := own_ge (h.an.each k hkc hk2) j (by rw [hck]; exact e); omega
    exact (Below.heap_setCell _ _ _ _ hng).trans ((hg.block j (by omega) (fun e => hnr e.symm)).trans ((hB.block j (by omega)).trans ((set4 j hnt).trans ((hb5.block j hj).trans (hB1.block j hjW)))))

theorem Turn.drew' {W1 : World} (h : Turn fm W W1) : Turn fm W W1.drew := ⟨h.os, h.tape, h.output, h.size, h.block⟩
set_option maxRecDepth 100000 in
set_option maxHeartbeats 4000000 in
theorem rlstep_some (H : RLM W base R S fc fw) (k : Nat) (hk : k < S.work.length) (a : Ac) (hn : S.next k = some a) (hcan : S.canN k = true) : Calls Try.prog 16 #[.pointer (some ⟨R, 0, none⟩), i64 k] W (RStep W base R (S.stepN k) fc fw) := by
  have HN := hid (rcan_any H k)
  rw [hcan] at HN
  obtain ⟨tb0, b, o, wc0, g, acx, p1, c1, q1, qc, hw⟩ := H.at k hk
  obtain ⟨wl, hwl0⟩ : ∃ wl, wl = S.work.getD k [] := ⟨_, rfl⟩
  obtain ⟨sl, hsl0'⟩ : ∃ sl, sl = S.said.getD k [] := ⟨_, rfl⟩
  rw [← hwl0, ← hsl0'] at hw
  obtain ⟨fm, fs, dm, tb, wp, wc, ws, ap, ac, cs, h, hf⟩ := H
  obtain ⟨c0, d1, d2, c3, hl⟩ := h.cells
  have hc3 := hw.h3
  rw [c3] at hc3
  injection hc3 with hc3
  injection hc3 with e1 _ e3
  subst e1 e3
  have hc2 := hw.h2
  rw [d2] at hc2
  injection hc2 with hc2
  injection hc2 with e1
  injection e1 with e1
  injection e1 with e1
  subst e1
  have hk2 : k < S.said.length := by rw [h.ln]; exact hk
  have hkc : k < cs.length := by rw [h.an.len]; exact hk2
  have hkw : k < ws.length := by rw [h.wk.len]; exact hk
  have hck : cs[k] = .slice q1 sl.length qc := by
    have h1 := (own_cell h.an.own k hkc).1
    rw [hw.hs] at h1
    injection h1 with h1
    exact h1.symm
  have e2 : sl = S.said[k] := by rw [hsl0']; simp [List.getD_eq_getElem?_getD, hk2]
  have e4 : wl = S.work[k] := by rw [hwl0]; simp [List.getD_eq_getElem?_getD, hk]
  have hne : (S.mem.tell k a).2 ≠ 231 := by
    obtain ⟨a2, ha2, he⟩ := can_next hcan
    rw [hn] at ha2
    injection ha2 with ha2
    rw [ha2]; exact he
  have HST : Hid (S.stepN k = ⟨S.mem.step k a, S.work, S.said.set k (sl ++ [S.mem.tell k a])⟩) := by
    unfold Hid SL.stepN; rw [hn, hsl0']; simp only [Int.toNat_natCast, hne, if_false]
  rw [rnxt_at hk, ← hwl0, ← hsl0'] at hn
  obtain ⟨hsl, hel⟩ := List.getElem?_eq_some_iff.1 hn
  have hrw := hw.row
  obtain ⟨b5, o5, hp1, l5, r0, r1, r2, r3⟩ := acs_at hrw _ hsl
  rw [hel] at r0 r1 r2 r3
  have hwlen := wkCells_len ws S.work h.wk.len
  have hbw : fw b := h.wk.fv (fun e => by rw [e] at hk; exact absurd hk (Nat.not_lt_zero _)) ⟨b, o, none⟩ (by
    have h1 := hw.h1
    rw [d1] at h1
    injection h1 with h1
    injection h1)
  have hb5w : fw b5 := h.wk.fs k hkw hk (fun e => by rw [e4, e] at hsl; exact absurd hsl (Nat.not_lt_zero _)) ⟨b5, o5, none⟩ (by
    obtain ⟨b', o', e, _, hcc⟩ := h.wk.row.at (by omega)
    have h1 := hw.h1
    rw [d1] at h1
    injection h1 with h1
    injection h1 with h1
    rw [e] at h1
    injection h1 with h1
    injection h1 with h1 h2
    subst h1 h2
    have h3 := hw.hw
    rw [hcc k (by omega)] at h3
    have h4 := wkCells_get ws S.work k hkw hk
    rw [List.getElem?_eq_getElem (by omega)] at h4
    injection h4 with h4
    rw [h4] at h3
    injection h3 with h3
    injection h3 with h3
    rw [h3, hp1])
  have HH := hid h
  have HDO := hid (fun w' (hb : Below W.heap.size W w') => rdo_any (h.mem.below hb) k a)
  have HF := hid hf
  have HCK := hid hck
  have HE2 := hid e2
  have hkI : (k : Int) < S.said.length := by omega
  have hkI2 : (k : Int) < S.work.length := by omega
  have hk0 : (0 : Int) ≤ (k : Int) := by omega
  have hwl := hw.bd.1
  have hslb : sl.length ≤ 4398046511104 := by omega
  have hslI : (sl.length : Int) < wl.length := by omega
  have hsl0 : (0 : Int) ≤ (sl.length : Int) := by omega
  have hsml : S.said.length ≤ 64 := by have := h.n1; have := h.ln; omega
  have up : ∀ w' (c j : Nat) (u : Value), Turn fm W w' → c < W.heap.size → ¬ fm c → W.cell? ⟨c, j, none⟩ = some u → w'.cell? ⟨c, j, none⟩ = some u := fun w' c j u ht hl hnf h => (World.cell?_of_block (a := ⟨c, j, none⟩) (ht.block c hl hnf)).trans h
  have hRm : ¬ fm R := fun h1 => h.mw R h1 h.hl
  have hRs : ¬ fs R := fun h1 => h.aw R h1 h.hl
  have hRt : R ≠ tb := fun e => h.tw (by rw [← e]; exact h.hl)
  have f0 := fun w' hb => up w' _ _ _ hb hl hRm c0
  have f1 := fun w' hb => up w' _ _ _ hb hl hRm hw.h1
  have f2 := fun w' hb => up w' _ _ _ hb hl hRm d2
  have f3 := fun w' hb => up w' _ _ _ hb hl hRm c3
  have f4 := fun w' hb => up w' _ _ _ hb hw.lt.2.1 (fun h1 => h.mw _ h1 hbw) hw.hw
  have f5 := fun w' hb => up w' _ _ _ hb h.tl h.mt hw.ht
  have g0 := fun w' hb => up w' _ _ _ hb l5 (fun h1 => h.mw _ h1 hb5w) r0
  have g1 := fun w' hb => up w' _ _ _ hb l5 (fun h1 => h.mw _ h1 hb5w) r1
  have g2 := fun w' hb => up w' _ _ _ hb l5 (fun h1 => h.mw _ h1 hb5w) r2
  have g3 := fun w' hb => up w' _ _ _ hb l5 (fun h1 => h.mw _ h1 hb5w) r3
  have HRN := hid (And.intro hRm (And.intro hRs hRt))
  have HTL := hid h.tl
  have HLE : Hid (sl.length < S.work[k].length) := by rw [← e4]; exact hsl
  subst hp1
  have HHL := hid hl
  obtain ⟨ak, acl, ao, an⟩ := a
  unfold DoTell at *
  unfold Ac.val at HDO
  dsimp only at HDO g0 g1 g2 g3
  clear up hwl0 hsl0' hn h hf hw hck e2 e4 c0 d1 d2 c3 hcan hsl hel hrw r0 r1 r2 r3 l5 hwl hne hwlen hRm hRs hl
  go_enter Try.func16, Try.ntmps16
  go_upto_region 1 with (go_at_call 15; (with_reducible refine HN.out.mono ?_); rintro e w3 ⟨rfl, hb3⟩; have HB3 := hid hb3; clear hb3)
  have hS3 : Turn fm W w3 := Turn.of_below HB3.out
  have hS4 := hS3.drew'
  have HS3 := hid hS3
  go_region_held3 (fun w' => Turn fm W w') (with_reducible assumption)
    (first | (go_at_call 37; (with_reducible refine (HDO.out _ HB3.out.drew).mono ?_); rintro e w5 ⟨rfl, fm5, hm5, hf5, ht5, hb5⟩; have hS5 : Turn fm W w5 := Turn.after HB3.out.drew ht5; have HM5 := hid hm5; have HF5 := hid hf5; have HT5 := hid ht5; have HB5 := hid hb5; clear hm5 hf5 ht5 hb5))
  have HS5 := hid hS5
  have HAT : Hid (w5.heap[tb]? = some (.cells (atRow S.said).toArray 3 (0, 0))) := (hS5.block tb HTL.out HH.out.mt).trans HH.out.ats
  have HA5 : Hid (AnsIs w5 base (.slice (some ⟨g, 0, none⟩) S.said.length ac) cs S.said fs) := HH.out.an.kept (fun j hj => HS5.out.block j (HH.out.an.lt j hj) (fun hm => HH.out.ma j hm hj)) HS5.out.size
  have c2 := f2 _ hS5
  have c3 := f3 _ hS5
  have ct := f5 _ hS5
  have ft : w5.frozen? ⟨tb, k, none⟩ = false := frozen_of_row _ _ _ _ _ HAT.out
  have hcg : w5.cell? ⟨g, k, none⟩ = some (.slice q1 sl.length qc) := by rw [(own_cell HA5.out.own k hkc).1, HCK.out]
  have hfg : w5.frozen? ⟨g, k, none⟩ = false := (own_cell HA5.out.own k hkc).2
  have HGF : Hid (fs g) := HH.out.an.fv g rfl
  have hgt : g ≠ tb := fun e => HH.out.st (by rw [← e]; exact HGF.out)
  have hgR : g ≠ R := fun e => HRN.out.2.1 (by rw [← e]; exact HGF.out)
  have HOWN5 : Hid (w5.ownsRow base 86 2 (.slice q1 sl.length qc) sl.length (anRow sl)) := by
    have := HA5.out.each k hkc hk2
    rw [HCK.out, ← HE2.out] at this
    exact this
  have HQT := hid (fun (e : (Value.slice q1 sl.length qc).ownBlock = some tb) => HH.out.st ((HH.out.an.fc k hkc tb (by rw [HCK.out]; exact e)).1))
  have HQR := hid (fun (e : (Value.slice q1 sl.length qc).ownBlock = some R) => HRN.out.2.1 ((HH.out.an.fc k hkc R (by rw [HCK.out]; exact e)).1))
  have HQG := hid (fun (e : (Value.slice q1 sl.length qc).ownBlock = some g) => (HH.out.an.fc k hkc g (by rw [HCK.out]; exact e)).2 rfl)
  have hlg : g < w5.heap.size := HA5.out.lt g HGF.out
  have hlR : R < w5.heap.size := Nat.lt_of_lt_of_le HHL.out hS5.size
  have hlt5 : tb < w5.heap.size := (Array.getElem?_eq_some_iff.1 HAT.out).1
  have hbz : base ≤ w5.heap.size := Nat.le_trans HH.out.bs hS5.size
  generalize hV : (S.mem.tell k ⟨ak, acl, ao, an⟩) = VE at *
  obtain ⟨V, E⟩ := VE
  dsimp only at *
  have HV := hid hV
  clear hV f0 f1 f2 f3 f4 f5 g0 g1 g2 g3 hS3 hS4 hS5
  go_upto_region 3 with (fail)
  obtain ⟨w4, hw4⟩ : ∃ w4, w4 = w5.setCell ⟨tb, k, none⟩ (i64 ((sl.length : Int) + 1)) := ⟨_, rfl⟩
  have set4 : ∀ j, j ≠ tb → w4.heap[j]? = w5.heap[j]? := fun j hj => by rw [hw4]; exact Below.heap_setCell _ _ _ _ hj
  have hz4 : w4.heap.size = w5.heap.size := by rw [hw4]; simp
  have x3 : w4.cell? ⟨R, 3, none⟩ = some (.slice (some ⟨g, 0, none⟩) S.said.length ac) := (World.cell?_of_block (a := ⟨R, 3, none⟩) (set4 R HRN.out.2.2)).trans c3
  have xg : w4.cell? ⟨g, k, none⟩ = some (.slice q1 sl.length qc) := (World.cell?_of_block (a := ⟨g, k, none⟩) (set4 g hgt)).trans hcg
  have yg : w4.frozen? ⟨g, k, none⟩ = false := (World.frozen?_of_block (a := ⟨g, k, none⟩) (set4 g hgt)).trans hfg
  have HOWN : Hid (w4.ownsRow base 86 2 (.slice q1 sl.length qc) sl.length (anRow sl)) := own_blk HOWN5.out (fun j e => set4 j (fun e2 => HQT.out (by rw [e, e2])))
  have hlg4 : g < w4.heap.size := by omega
  have hlR4 : R < w4.heap.size := by omega
  have hbz4 : base ≤ w4.heap.size := by omega
  have HW4 := hid hw4
  have HZ4 := hid hz4
  rw [← hw4]
  clear hw4 hz4 set4 c2 c3 ct ft hcg hfg hgt hgR hlg hlR hbz
  go_region_law (first
    | (go_loud (refine step_app EAns rfl (.tmp 55) (.tmp 59) rfl base (.slice q1 sl.length qc) sl.length (anRow sl) rfl (HOWN.out.alloc _) ⟨_, 0, none⟩ 1 1 (anCells (V, E)) rfl rfl (row_newAt _ _ _ _ (by simp)) (anCells_one _) (by unfold maxLen; omega) (by omega) (by simp; omega) ?_); intro v6 w6 ho6 hg6 hs6; obtain ⟨vp6, vc6, rfl, _⟩ := own_row ho6; have hG6 : w6.heap[g]? = w4.heap[g]? := (hg6.block g (by simp; omega) (fun e => HQG.out e.symm)).trans (Below.heap_alloc _ _ _ hlg4); have d6 : w6.cell? ⟨g, k, none⟩ = some (.slice q1 sl.length qc) := (World.cell?_of_block (a := ⟨g, k, none⟩) hG6).trans xg; have f6 : w6.frozen? ⟨g, k, none⟩ = false := (World.frozen?_of_block (a := ⟨g, k, none⟩) hG6).trans yg; have c6 : w6.cell? ⟨R, 3, none⟩ = some (.slice (some ⟨g, 0, none⟩) S.said.length ac) := (World.cell?_of_block (a := ⟨R, 3, none⟩) ((hg6.block R (by simp; omega) (fun e => HQR.out e.symm)).trans (Below.heap_alloc _ _ _ hlR4))).trans x3; have HO6 := hid ho6; have HG6 := hid hg6; have HS6 := hid hs6; clear ho6 hg6 hs6 hG6))
  all_goals
    go_end0
    rw [HST.out]
    have hle : S.said[k].length < S.work[k].length := by rw [← HE2.out]; exact HLE.out
    have hB0 : Below w5.heap.size (w5.setCell ⟨tb, k, none⟩ (i64 ((sl.length : Int) + 1))) w4 := by rw [HW4.out]; exact Below.refl _ _
    first
      | exact rlstep_end HH.out HF.out HB3.out HM5.out HF5.out ⟨HT5.out.os, HT5.out.tape, HT5.out.output, HT5.out.size, HT5.out.block⟩ ⟨HB5.out.os, HB5.out.tape, HB5.out.output, HB5.out.size, HB5.out.block⟩ (Mem.step_len _ _ _) k hkc hk2 hk hle (V, E) HE2.out.symm HCK.out rfl (hB0.alloc (Nat.le_of_eq HZ4.out.symm) _) HO6.out HG6.out HS6.out
      | exact rlstep_end HH.out HF.out HB3.out HM5.out HF5.out ⟨HT5.out.os, HT5.out.tape, HT5.out.output, HT5.out.size, HT5.out.block⟩ ⟨HB5.out.os, HB5.out.tape, HB5.out.output, HB5.out.size, HB5.out.block⟩ (Mem.step_len _ _ _) k hkc hk2 hk hle (V, E) HE2.out.symm HCK.out rfl (hB0.alloc (Nat.le_of_eq HZ4.out.symm) _).drew HO6.out HG6.out HS6.out
theorem rlstep_any (H : RLM W base R S fc fw) (n : Int) : Calls Try.prog 16 #[.pointer (some ⟨R, 0, none⟩), i64 n] W (RStep W base R (S.stepN n) fc fw) := by
  cases hc : S.canN n with
  | false => exact rlstep_none H n hc
  | true =>
    obtain ⟨a, hn, _⟩ := can_next hc
    by_cases h2 : 0 ≤ n ∧ n < S.work.length
    · obtain ⟨k, rfl⟩ : ∃ k : Nat, n = k := ⟨n.toNat, by omega⟩
      exact rlstep_some H k (by omega) a hn hc
    · rw [rnxt_out h2] at hn; cases hn
end Go.Proofs.Ythmockfeffikjaa
