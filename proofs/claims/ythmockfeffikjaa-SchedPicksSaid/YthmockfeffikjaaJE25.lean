/-
  What a run comes to where there is room for all its steps, in plain words.
  Answers of a machine of lists.
  How many answers there are.
-/
import Derived.Test.YthmockfeffikjaaJE21
import Derived.Test.YthmockfeffikjaaJE24
namespace Go.Proofs.Ythmockfeffikjaa
variable {S S' S2 : SL} {r r' r2 : Rn} {most : Int}

def SL.told (S : SL) : Nat := (S.said.map List.length).sum
theorem told_set {α : Type} : ∀ (ss : List (List α)) (k : Nat) (x : α) (h : k < ss.length), ((ss.set k (ss[k] ++ [x])).map List.length).sum = (ss.map List.length).sum + 1
  | s :: ss, 0, x, _ => by simp; omega
  | s :: ss, k + 1, x, h => by
    have := told_set ss k x (by simpa using h)
    simp only [List.set_cons_succ, List.map_cons, List.sum_cons, List.getElem_cons_succ]
    omega
theorem can_told {n : Int} (h : S.canN n = true) (hl : S.said.length = S.work.length) : (S.stepN n).told = S.told + 1 := by
  obtain ⟨a, ha, he⟩ := can_next h
  unfold SL.stepN
  rw [ha]
  simp only [he, if_false]
  unfold SL.next at ha
  by_cases h2 : 0 ≤ n ∧ n < S.work.length
  · have hk2 : n.toNat < S.said.length := by omega
    have e2 : S.said.getD n.toNat [] = S.said[n.toNat] := by simp [List.getD_eq_getElem?_getD, hk2]
    rw [e2]
    exact told_set S.said n.toNat _ hk2
  · rw [if_neg h2] at ha; cases ha
structure Went (S : SL) (r : Rn) (S' : SL) (r' : Rn) : Prop where
  w : S'.work = S.work
  l : S'.said.length = S'.work.length
  p : r'.p + r'.t + S'.left = r.p + r.t + S.left
  q : (S'.told : Int) - (r'.p + r'.t) = S.told - (r.p + r.t)
theorem Went.refl (hl : S.said.length = S.work.length) : Went S r S r := ⟨rfl, hl, rfl, rfl⟩
theorem Went.trans (h : Went S r S' r') (h2 : Went S' r' S2 r2) : Went S r S2 r2 := ⟨h2.w.trans h.w, h2.l, h2.p.trans h.p, h2.q.trans h.q⟩
theorem Went.same (h : Went S r S' r') (hp : r2.p + r2.t = r.p + r.t) : Went S r2 S' r' := ⟨h.w, h.l, by rw [hp]; exact h.p, by rw [hp]; exact h.q⟩
theorem went_step {n : Int} (h : S.canN n = true) (hl : S.said.length = S.work.length) (hp : r'.p + r'.t = r.p + r.t + 1) : Went S r (S.stepN n) r' := by
  have h1 := can_step h hl
  have h2 := can_told h hl
  exact ⟨step_work S n, by rw [step_said, step_work]; exact hl, by omega, by omega⟩
theorem can_left {n : Int} (h : S.canN n = true) (hl : S.said.length = S.work.length) : 1 ≤ S.left := by have := can_step h hl; omega
theorem can_or (S : SL) (n : Int) : S.canN n = false ∨ S.canN n = true := by cases S.canN n <;> simp
theorem picks_went (most : Int) : ∀ (l : List Int) (S : SL) (r : Rn), S.said.length = S.work.length → r.p + r.t + S.left ≤ most → (S.picks most l r).2.2 = false ∧ Went S r (S.picks most l r).1 (S.picks most l r).2.1 ∧ (S.picks most l r).2.1.p + (S.picks most l r).2.1.s = r.p + r.s + l.length ∧ (S.picks most l r).2.1.t = r.t
  | [], S, r, hl, hm => ⟨rfl, .refl hl, by simp [SL.picks], rfl⟩
  | w :: l, S, r, hl, hm => by
    rcases can_or S w with hc | hc
    · have e : S.picks most (w :: l) r = S.picks most l ⟨r.p, r.s + 1, r.t⟩ := if_pos hc
      rw [e]
      have h := picks_went most l S ⟨r.p, r.s + 1, r.t⟩ hl hm
      refine ⟨h.1, h.2.1.same rfl, ?_, h.2.2.2⟩
      rw [h.2.2.1]
      simp only [List.length_cons]
      omega
    · have h1 := can_left hc hl
      have e : S.picks most (w :: l) r = (S.stepN w).picks most l ⟨r.p + 1, r.s, r.t⟩ := (if_neg (by rw [hc]; decide)).trans (if_neg (by omega))
      rw [e]
      have h2 := can_step hc hl
      have h := picks_went most l (S.stepN w) ⟨r.p + 1, r.s, r.t⟩ (by rw [step_said, step_work]; exact hl) (by show r.p + 1 + r.t + _ ≤ most; omega)
      refine ⟨h.1, (went_step hc hl (by show r.p + 1 + r.t = _; omega)).trans h.2.1, ?_, h.2.2.2⟩
      rw [h.2.2.1]
      simp only [List.length_cons]
      omega
theorem turn_went (most : Int) : ∀ (l : List Int) (S : SL) (r : Rn) (mv : Bool), S.said.length = S.work.length → r.p + r.t + S.left ≤ most → (S.turn most l r mv).2.2.2 = false ∧ Went S r (S.turn most l r mv).1 (S.turn most l r mv).2.1 ∧ (S.turn most l r mv).2.1.p = r.p ∧ (S.turn most l r mv).2.1.s = r.s
  | [], S, r, mv, hl, hm => ⟨rfl, .refl hl, rfl, rfl⟩
  | w :: l, S, r, mv, hl, hm => by
    rcases can_or S w with hc | hc
    · have e : S.turn most (w :: l) r mv = S.turn most l r mv := if_pos hc
      rw [e]
      exact turn_went most l S r mv hl hm
    · have h1 := can_left hc hl
      have e : S.turn most (w :: l) r mv = (S.stepN w).turn most l ⟨r.p, r.s, r.t + 1⟩ true := (if_neg (by rw [hc]; decide)).trans (if_neg (by omega))
      rw [e]
      have h2 := can_step hc hl
      have h := turn_went most l (S.stepN w) ⟨r.p, r.s, r.t + 1⟩ true (by rw [step_said, step_work]; exact hl) (by show r.p + (r.t + 1) + _ ≤ most; omega)
      exact ⟨h.1, (went_step hc hl (by show r.p + (r.t + 1) = _; omega)).trans h.2.1, h.2.2⟩
theorem tail_step (most : Int) (f : Nat) (S : SL) (r : Rn) : S.tail most (f + 1) r = if S.finN then (S, r, 0) else if (S.turn most (wlist S.work.length 0) r false).2.2.2 then ((S.turn most (wlist S.work.length 0) r false).1, (S.turn most (wlist S.work.length 0) r false).2.1, 251) else if (S.turn most (wlist S.work.length 0) r false).2.2.1 = false then ((S.turn most (wlist S.work.length 0) r false).1, (S.turn most (wlist S.work.length 0) r false).2.1, 250) else SL.tail most f (S.turn most (wlist S.work.length 0) r false).1 (S.turn most (wlist S.work.length 0) r false).2.1 := rfl
theorem tail_went (most : Int) : ∀ (f : Nat) (S : SL) (r : Rn), S.left < f → S.said.length = S.work.length → r.p + r.t + S.left ≤ most →
    Went S r (S.tail most f r).1 (S.tail most f r).2.1 ∧ (S.tail most f r).2.1.p = r.p ∧ (S.tail most f r).2.1.s = r.s ∧ ((S.tail most f r).2.2 = 0 ∧ (S.tail most f r).1.finN = true ∨ (S.tail most f r).2.2 = 250 ∧ (S.tail most f r).1.finN = false ∧ (S.tail most f r).1.enab = [])
  | 0, S, r, hf, hl, hm => by omega
  | f + 1, S, r, hf, hl, hm => by
    rw [tail_step]
    cases hfin : S.finN
    · have ht := turn_went most (wlist S.work.length 0) S r false hl hm
      have htl := turn_left most (wlist S.work.length 0) S r false hl
      have hts := turn_still most (wlist S.work.length 0) S r
      obtain ⟨U, hU⟩ : ∃ U, U = S.turn most (wlist S.work.length 0) r false := ⟨_, rfl⟩
      rw [← hU] at ht htl hts ⊢
      simp only [Bool.false_eq_true, if_false, ht.1]
      cases hmv : U.2.2.1
      · have h := hts hmv ht.1
        simp only [if_true]
        refine ⟨ht.2.1, ht.2.2.1, ht.2.2.2, .inr ⟨(by first | rfl | trivial), ?_, ?_⟩⟩
        · rw [h.1]; exact hfin
        · rw [h.1]; exact enab_none h.2.2
      · have h := htl.2.1 hmv (by trivial)
        simp only [Bool.true_eq_false, if_false]
        have h3 := tail_went most f U.1 U.2.1 (by omega) ht.2.1.l (by rw [ht.2.1.p]; exact hm)
        exact ⟨ht.2.1.trans h3.1, h3.2.1.trans ht.2.2.1, h3.2.2.1.trans ht.2.2.2, h3.2.2.2⟩
    · simp only [if_true]
      exact ⟨.refl hl, (by trivial), (by trivial), .inl ⟨(by trivial), hfin⟩⟩
theorem fin_none (h : S.finN = true) : S.enab = [] := by
  refine enab_none (fun w hw => ?_)
  unfold wlist at hw
  rw [List.drop_zero] at hw
  obtain ⟨i, hi, rfl⟩ := List.mem_map.1 hw
  have := List.all_eq_true.1 h i hi
  unfold SL.canN
  rw [this]; rfl
/-- A run with room for all its steps. -/
theorem run_went (S : SL) (ps : List Int) (most : Int) (hps : ps.length ≤ 65536) (h0 : 0 ≤ most) (h1 : most ≤ 1099511627776) (hl : S.said.length = S.work.length) (hm : (S.left : Int) ≤ most) :
    (S.run ps most).1.work = S.work ∧ (S.run ps most).1.said.length = (S.run ps most).1.work.length ∧ ((S.run ps most).1.told : Int) = S.told + ((S.run ps most).2.1.p + (S.run ps most).2.1.t) ∧ (S.run ps most).2.1.p + (S.run ps most).2.1.t + (S.run ps most).1.left = S.left ∧
      (S.run ps most).2.1.p + (S.run ps most).2.1.s = ps.length ∧ (S.run ps most).1.enab = [] ∧ ((S.run ps most).2.2 = 0 ∧ (S.run ps most).1.finN = true ∨ (S.run ps most).2.2 = 250 ∧ (S.run ps most).1.finN = false) := by
  have hp := picks_went most ps S ⟨0, 0, 0⟩ hl (by show (0 : Int) + 0 + _ ≤ most; omega)
  have e : S.run ps most = SL.tail most ((S.picks most ps ⟨0, 0, 0⟩).1.left + 1) (S.picks most ps ⟨0, 0, 0⟩).1 (S.picks most ps ⟨0, 0, 0⟩).2.1 := by
    unfold SL.run
    rw [if_neg (by omega), if_neg (by omega)]
    have h := hp.1
    generalize S.picks most ps ⟨0, 0, 0⟩ = U at h ⊢
    obtain ⟨a, b, d⟩ := U
    have h : d = false := h
    subst h; rfl
  rw [e]
  have hq := hp.2.1.p
  have ht := tail_went most ((S.picks most ps ⟨0, 0, 0⟩).1.left + 1) (S.picks most ps ⟨0, 0, 0⟩).1 (S.picks most ps ⟨0, 0, 0⟩).2.1 (Nat.lt_succ_self _) hp.2.1.l (by rw [hq]; show (0 : Int) + 0 + _ ≤ most; omega)
  have hw := hp.2.1.trans ht.1
  have hwp := hw.p
  have hwq := hw.q
  have h3 := hp.2.2.1
  dsimp only at hwp hwq h3
  refine ⟨hw.w, hw.l, by omega, by omega, by rw [ht.2.1, ht.2.2.1]; omega, ?_, ?_⟩
  · rcases ht.2.2.2 with h | h
    · exact fin_none h.2
    · exact h.2.2
  · rcases ht.2.2.2 with h | h
    · exact .inl h
    · exact .inr ⟨h.1, h.2.1⟩
end Go.Proofs.Ythmockfeffikjaa
namespace Go.Proofs.Ythmockfeffikjaa
open Go.RowKit
variable {W W' : World} {base L : Nat} {S : SL} {fw fc : Nat → Prop}

def SL.ans (S : SL) (n : Int) : List (Int × Int) := if 0 ≤ n ∧ n < S.work.length then S.said.getD n.toNat [] else []
def AnTell (W : World) (l : List (Int × Int)) (e : Ending) (w' : World) : Prop := ∃ p c, e = .returned (.slice p l.length c) ∧ Row w' p (anRow l) ∧ Below W.heap.size W w'
theorem LM.ansAt (H : LM W base L S fc fw) (k : Nat) (hk : k < S.work.length) : ∃ g ac q1 qc, L < W.heap.size ∧ g < W.heap.size ∧ W.cell? ⟨L, 2, none⟩ = some (.slice (some ⟨g, 0, none⟩) S.said.length ac) ∧ W.cell? ⟨g, k, none⟩ = some (.slice q1 (S.said.getD k []).length qc) ∧
    (q1 = none → qc = 0) ∧ Row W q1 (anRow (S.said.getD k [])) ∧ (S.said.getD k []).length ≤ 4398046511104 ∧ S.said.length = S.work.length ∧ S.work.length ≤ 64 := by
  obtain ⟨fm, fa, dm, wp, wc, ws, ap, ac, cs, h, _⟩ := H
  obtain ⟨c0, c1, c2, hl⟩ := h.cells
  have hk2 : k < S.said.length := by rw [h.ln]; exact hk
  have hkc : k < cs.length := by rw [h.an.len]; exact hk2
  obtain ⟨g, ac', e, _, hg, _⟩ := own_block h.an.own (by omega)
  cases e
  have he := h.an.each k hkc hk2
  obtain ⟨q1, qc, hq, h1, h2, hr, _⟩ := own_row he
  have e2 : S.said.getD k [] = S.said[k] := by simp [List.getD_eq_getElem?_getD, hk2]
  rw [e2]
  have hn : q1 = none → qc = 0 := by
    intro e
    subst e
    rcases he.2 with ⟨hv, _⟩ | ⟨g, cap, cur, hv, _⟩
    · rw [hq] at hv; injection hv
    · rw [hq] at hv; cases hv
  refine ⟨g, ac, q1, qc, hl, hg, c2, ?_, hn, hr, ?_, h.ln, h.n1⟩
  · rw [(own_cell h.an.own k hkc).1, hq]
  · exact Nat.le_trans (h.le k hk2 hk) (h.n3 _ (List.getElem_mem hk))
set_option maxRecDepth 100000 in
set_option maxHeartbeats 2000000 in
theorem lanswers_any (H : LM W base L S fc fw) (n : Int) : Calls Try.prog 18 #[.pointer (some ⟨L, 0, none⟩), i64 n] W (AnTell W (S.ans n)) := by
  have HI := hid (lis_any H n)
  unfold AnTell SL.ans
  by_cases h : 0 ≤ n ∧ n < S.work.length
  · rw [if_pos h]
    obtain ⟨k, rfl⟩ : ∃ k : Nat, n = k := ⟨n.toNat, by omega⟩
    rw [Int.toNat_natCast]
    have hk : k < S.work.length := by omega
    have e : (decide (0 ≤ (k : Int)) && decide ((k : Int) < S.work.length)) = true := by simp; omega
    rw [e] at HI
    obtain ⟨g, ac, q1, qc, hL, hg, c2, ck, hn, hr, hl, h3, h4⟩ := H.ansAt k hk
    generalize S.said.getD k [] = l at *
    have HCL := hid (fun w' (hb : Below W.heap.size W w') => cloneAn_any q1 qc l w' hl hn (hr.below hb))
    unfold CloneAnPost at HCL
    have hkS : (k : Int) < S.said.length := by omega
    have hk0 : (0 : Int) ≤ (k : Int) := by omega
    clear H e h hr hn
    go_enter Try.func18, Try.ntmps18
    go_wp2_with (first
      | (go_at_call 38; (with_reducible refine HI.out.mono ?_); rintro e w' ⟨rfl, rfl⟩)
      | (go_at_call 39; (with_reducible refine (HCL.out _ (by first | exact Below.refl _ _ | exact (Below.refl _ _).drew)).mono ?_); rintro e w3 ⟨v3, rfl, ho3, hb3⟩; have HO3 := hid ho3; have HB3 := hid hb3; clear ho3 hb3))
    go_ret
    obtain ⟨p, c, rfl, hr3⟩ := own_shape HO3.out
    exact ⟨p, c, rfl, hr3, HB3.out⟩
  · rw [if_neg h]
    have e : (decide (0 ≤ n) && decide (n < S.work.length)) = false := by
      rw [Bool.and_eq_false_iff]
      by_cases h0 : 0 ≤ n
      · right; simp; omega
      · left; simpa using h0
    rw [e] at HI
    clear H e h
    go_enter Try.func18, Try.ntmps18
    go_wp2_with (go_at_call 38; (with_reducible refine HI.out.mono ?_); rintro e w' ⟨rfl, rfl⟩)
    go_ret
    exact ⟨none, 0, rfl, Row.nil _ _, Below.refl _ _⟩
end Go.Proofs.Ythmockfeffikjaa
namespace Go.Proofs.Ythmockfeffikjaa
variable {S : SL}
def SL.sumA (S : SL) : Nat → Nat
  | 0 => 0
  | k + 1 => S.sumA k + (S.ans k).length
theorem sumTo {α : Type} (f : Nat → Nat) (l : List (List α)) (g : Nat → Nat) (h0 : g 0 = 0) (hs : ∀ k, g (k + 1) = g k + f k) (hf : ∀ k (h : k < l.length), f k = l[k].length) : ∀ k, k ≤ l.length → g k = ((l.take k).map List.length).sum
  | 0, _ => by rw [h0]; simp
  | k + 1, h => by
    have hk : k < l.length := by omega
    rw [hs, sumTo f l g h0 hs hf k (by omega), hf k hk, take_succ l k hk, List.map_append, List.sum_append]
    rfl
theorem sumA_to (hl : S.said.length = S.work.length) (k : Nat) (hk : k ≤ S.said.length) : S.sumA k = ((S.said.take k).map List.length).sum :=
  sumTo (fun k => (S.ans k).length) S.said S.sumA rfl (fun _ => rfl) (fun k h => by
    unfold SL.ans
    rw [if_pos (by omega), Int.toNat_natCast]
    simp [List.getD_eq_getElem?_getD, h]) k hk
theorem sumA_told (hl : S.said.length = S.work.length) : S.sumA S.work.length = S.told := by
  rw [sumA_to hl _ (by omega), ← hl, List.take_length]; rfl
theorem sumA_le (hl : S.said.length = S.work.length) : ∀ k, k ≤ S.work.length → S.sumA k ≤ S.told := fun k hk => by
  rw [sumA_to hl k (by omega)]
  unfold SL.told
  have h : (S.said.map List.length).sum = ((S.said.take k).map List.length).sum + ((S.said.drop k).map List.length).sum := by
    rw [← List.sum_append, ← List.map_append, List.take_append_drop]
  omega
theorem sumA_succ (k : Nat) : S.sumA (k + 1) = S.sumA k + (S.ans k).length := rfl
/-- How many accesses there are in all. -/
def totW (work : List (List Ac)) : Nat := (work.map List.length).sum
theorem nl0_told (cs : List Ce) (work : List (List Ac)) : (nl0 cs work).told = 0 := by
  unfold SL.told nl0
  simp only
  induction work.length with
  | zero => rfl
  | succ n ih => rw [List.replicate_succ, List.map_cons, List.sum_cons, ih]; rfl
theorem leftL0 : ∀ work : List (List Ac), leftL work (List.replicate work.length []) = totW work
  | [] => rfl
  | l :: ws => by
    have := leftL0 ws
    simp only [List.length_cons, List.replicate_succ, leftL, totW, List.map_cons, List.sum_cons, List.length_nil] at this ⊢
    rw [this]; omega
theorem nl0_left (cs : List Ce) (work : List (List Ac)) : (nl0 cs work).left = totW work := leftL0 work
theorem nl0_len (cs : List Ce) (work : List (List Ac)) : (nl0 cs work).said.length = (nl0 cs work).work.length := by simp [nl0]
end Go.Proofs.Ythmockfeffikjaa
