/-
  A run in plain words; The runner: full; what a run holds.
-/
import Derived.Test.YthmockfeffikjaaJE20
import Derived.Deep.LoopGhost
/-! A run in plain words. -/
namespace Go.Proofs.Ythmockfeffikjaa
open Go.RowKit

structure Rn where
  p : Int
  s : Int
  t : Int
def SL.picks (most : Int) : List Int → SL → Rn → SL × Rn × Bool
  | [], S, r => (S, r, false)
  | w :: l, S, r => if S.canN w = false then SL.picks most l S ⟨r.p, r.s + 1, r.t⟩ else if most ≤ r.p + r.t then (S, r, true) else SL.picks most l (S.stepN w) ⟨r.p + 1, r.s, r.t⟩
def SL.turn (most : Int) : List Int → SL → Rn → Bool → SL × Rn × Bool × Bool
  | [], S, r, mv => (S, r, mv, false)
  | w :: l, S, r, mv => if S.canN w = false then SL.turn most l S r mv else if most ≤ r.p + r.t then (S, r, mv, true) else SL.turn most l (S.stepN w) ⟨r.p, r.s, r.t + 1⟩ true
def wlist (n k : Nat) : List Int := ((List.range n).drop k).map (fun i : Nat => (i : Int))
theorem wlist_cons {n k : Nat} (h : k < n) : wlist n k = (k : Int) :: wlist n (k + 1) := by
  unfold wlist
  rw [List.drop_eq_getElem_cons (by simpa using h)]
  simp
theorem wlist_end (n : Nat) : wlist n n = [] := by unfold wlist; rw [List.drop_of_length_le (by simp)]; rfl
def SL.tail (most : Int) : Nat → SL → Rn → SL × Rn × Int
  | 0, S, r => (S, r, 0)
  | f + 1, S, r => if S.finN then (S, r, 0) else
    match S.turn most (wlist S.work.length 0) r false with
    | (S', r', mv, ov) => if ov then (S', r', 251) else if mv = false then (S', r', 250) else SL.tail most f S' r'
/-- How many accesses are left. -/
def leftL : List (List Ac) → List (List (Int × Int)) → Nat
  | w :: ws, s :: ss => (w.length - s.length) + leftL ws ss
  | _, _ => 0
def SL.left (S : SL) : Nat := leftL S.work S.said
theorem step_work (S : SL) (n : Int) : (S.stepN n).work = S.work := by
  unfold SL.stepN
  split
  · rfl
  · split <;> rfl
theorem step_mlen (S : SL) (n : Int) : (S.stepN n).mem.cs.length = S.mem.cs.length := by
  unfold SL.stepN
  split
  · rfl
  · split
    · rfl
    · exact Mem.step_len _ _ _
theorem leftL_set : ∀ (ws : List (List Ac)) (ss : List (List (Int × Int))) (k : Nat) (x : Int × Int) (h1 : k < ws.length) (h2 : k < ss.length), ss[k].length < ws[k].length → leftL ws (ss.set k (ss[k] ++ [x])) + 1 = leftL ws ss
  | w :: ws, s :: ss, 0, x, _, _, h => by
    simp only [List.set_cons_zero, leftL, List.getElem_cons_zero, List.length_append, List.length_singleton] at h ⊢
    omega
  | w :: ws, s :: ss, k + 1, x, h1, h2, h => by
    simp only [List.set_cons_succ, leftL, List.getElem_cons_succ] at h ⊢
    have := leftL_set ws ss k x (by simpa using h1) (by simpa using h2) h
    omega
theorem tell_look (M : Mem) (n : Int) (a : Ac) (h : (M.look n a).2.2 ≠ 231) : (M.tell n a).2 ≠ 231 := by
  unfold Mem.tell
  split
  · simp
  · exact h
theorem can_next {S : SL} {n : Int} (h : S.canN n = true) : ∃ a, S.next n = some a ∧ (S.mem.tell n a).2 ≠ 231 := by
  unfold SL.canN SL.doneN SL.waitsN at h
  cases hn : S.next n with
  | none => rw [hn] at h; simp at h
  | some a =>
    rw [hn] at h
    refine ⟨a, rfl, tell_look _ _ _ (fun e => ?_)⟩
    simp [e] at h
theorem can_step {S : SL} {n : Int} (h : S.canN n = true) (hl : S.said.length = S.work.length) : (S.stepN n).left + 1 = S.left := by
  obtain ⟨a, ha, he⟩ := can_next h
  unfold SL.stepN
  rw [ha]
  simp only [he, if_false]
  unfold SL.next at ha
  by_cases h2 : 0 ≤ n ∧ n < S.work.length
  · rw [if_pos h2] at ha
    have hk : n.toNat < S.work.length := by omega
    have hk2 : n.toNat < S.said.length := by omega
    have e1 : S.work.getD n.toNat [] = S.work[n.toNat] := by simp [List.getD_eq_getElem?_getD, hk]
    have e2 : S.said.getD n.toNat [] = S.said[n.toNat] := by simp [List.getD_eq_getElem?_getD, hk2]
    rw [e1, e2] at ha
    rw [e2]
    exact leftL_set S.work S.said n.toNat _ hk hk2 (List.getElem?_eq_some_iff.1 ha).1
  · rw [if_neg h2] at ha; cases ha
theorem step_said (S : SL) (n : Int) : (S.stepN n).said.length = S.said.length := by
  unfold SL.stepN
  split
  · rfl
  · split
    · rfl
    · simp
theorem turn_work (most : Int) : ∀ (l : List Int) (S : SL) (r : Rn) (mv : Bool), (S.turn most l r mv).1.work = S.work
  | [], S, r, mv => rfl
  | w :: l, S, r, mv => by
    unfold SL.turn
    split
    · exact turn_work most l S r mv
    · split
      · rfl
      · exact (turn_work most l (S.stepN w) _ true).trans (step_work S w)
/-- A turn in which somebody moved leaves less; one in which nobody did leaves all as it was. -/
theorem turn_left (most : Int) : ∀ (l : List Int) (S : SL) (r : Rn) (mv : Bool), S.said.length = S.work.length → (S.turn most l r mv).1.left ≤ S.left ∧ ((S.turn most l r mv).2.2.1 = true → mv = false → (S.turn most l r mv).1.left < S.left) ∧ (S.turn most l r mv).1.said.length = (S.turn most l r mv).1.work.length
  | [], S, r, mv, h => ⟨Nat.le_refl _, (fun h1 h2 => by subst h2; cases h1), h⟩
  | w :: l, S, r, mv, h => by
    unfold SL.turn
    split
    · exact turn_left most l S r mv h
    · rename_i hc
      have hc : S.canN w = true := by cases hcc : S.canN w <;> simp_all
      split
      · exact ⟨Nat.le_refl _, (fun h1 h2 => by subst h2; cases h1), h⟩
      · have h1 := turn_left most l (S.stepN w) ⟨r.p, r.s, r.t + 1⟩ true (by rw [step_said, step_work]; exact h)
        have h2 := can_step hc h
        exact ⟨by omega, fun _ _ => by omega, h1.2.2⟩
theorem turn_still (most : Int) : ∀ (l : List Int) (S : SL) (r : Rn), (S.turn most l r false).2.2.1 = false → (S.turn most l r false).2.2.2 = false → (S.turn most l r false).1 = S ∧ (S.turn most l r false).2.1 = r ∧ ∀ w ∈ l, S.canN w = false
  | [], S, r, _, _ => ⟨rfl, rfl, fun w hw => by cases hw⟩
  | w :: l, S, r, h1, h2 => by
    unfold SL.turn at h1 h2 ⊢
    by_cases hc : S.canN w = false
    · rw [if_pos hc] at h1 h2 ⊢
      have := turn_still most l S r h1 h2
      exact ⟨this.1, this.2.1, fun x hx => by
        rcases List.mem_cons.1 hx with e | e
        · rw [e]; exact hc
        · exact this.2.2 x e⟩
    · rw [if_neg hc] at h1 h2 ⊢
      by_cases hf : most ≤ r.p + r.t
      · rw [if_pos hf] at h2; cases h2
      · rw [if_neg hf] at h1
        exfalso
        have : ∀ (l : List Int) (S : SL) (r : Rn), (S.turn most l r true).2.2.1 = true := fun l => by
          induction l with
          | nil => intro S r; rfl
          | cons a l ih => intro S r; unfold SL.turn; split; exact ih _ _; split; rfl; exact ih _ _
        rw [this] at h1; cases h1
theorem enab_none {S : SL} (h : ∀ w ∈ wlist S.work.length 0, S.canN w = false) : S.enab = [] := by
  unfold SL.enab SL.enabTo
  rw [List.map_eq_nil_iff, List.filter_eq_nil_iff]
  intro a ha
  have := h a (by unfold wlist; rw [List.drop_zero]; exact List.mem_map.2 ⟨a, ha, rfl⟩)
  simp [this]
def SL.run (S : SL) (picks : List Int) (most : Int) : SL × Rn × Int :=
  if 65536 < picks.length then (S, ⟨0, 0, 0⟩, 3) else if most < 0 ∨ 1099511627776 < most then (S, ⟨0, 0, 0⟩, 1) else
  match S.picks most picks ⟨0, 0, 0⟩ with
  | (S1, r1, true) => (S1, r1, 251)
  | (S1, r1, false) => S1.tail most (S1.left + 1) r1
end Go.Proofs.Ythmockfeffikjaa
/-! The runner: full; what a run holds. -/
namespace Go.Proofs.Ythmockfeffikjaa
open Go.RowKit
variable {W W' wr : World} {base R L : Nat} {S S' : SL} {fw fc fc' : Nat → Prop} {most : Int} {r : Rn}

def RnIs (W : World) (R L : Nat) (most : Int) (r : Rn) : Prop := W.heap[R]? = some (.cells #[mi L, i64 r.p, i64 r.s, i64 r.t, i64 most] 79 (0, 0))
theorem RnIs.cells (h : RnIs W R L most r) : W.cell? ⟨R, 0, none⟩ = some (mi L) ∧ W.cell? ⟨R, 1, none⟩ = some (i64 r.p) ∧ W.cell? ⟨R, 2, none⟩ = some (i64 r.s) ∧ W.cell? ⟨R, 3, none⟩ = some (i64 r.t) ∧ W.cell? ⟨R, 4, none⟩ = some (i64 most) ∧ (∀ o, W.frozen? ⟨R, o, none⟩ = false) ∧ R < W.heap.size :=
  ⟨cell_of_row W R 0 _ _ _ h, cell_of_row W R 1 _ _ _ h, cell_of_row W R 2 _ _ _ h, cell_of_row W R 3 _ _ _ h, cell_of_row W R 4 _ _ _ h, fun o => frozen_of_row _ _ _ _ _ h, (Array.getElem?_eq_some_iff.1 h).1⟩
set_option maxRecDepth 100000 in
theorem full_any (h : RnIs W R L most r) (h1 : 0 ≤ r.p) (h2 : 0 ≤ r.t) (h3 : r.p + r.t ≤ 1099511627776) :
    Calls Try.prog 32 #[.pointer (some ⟨R, 0, none⟩)] W fun e w' => e = .returned (.bool (decide (most ≤ r.p + r.t))) ∧ ∃ q, w' = W.drewN q := by
  obtain ⟨_, c1, c2, c3, c4, _, hl⟩ := h.cells
  have HW : Hid (wrap64 (r.p + r.t) = r.p + r.t) := IntWalk.wrap64_in _ (by omega)
  clear h
  go_enter Try.func32, Try.ntmps32
  go_upto_region 1 with (fail)
  go_quiet (fail)
  go_wp2_with fail
  go_ret
  exact ⟨rfl, _, rfl⟩

/-- What a run holds, seen from the world W at which it began. -/
structure TI (W : World) (base R L : Nat) (most : Int) (fc fw : Nat → Prop) (S : SL) (r : Rn) (wr : World) (fc' : Nat → Prop) : Prop where
  m : LM wr base L S fc' fw
  n : RnIs wr R L most r
  f : ∀ k, fc' k → fc k ∨ W.heap.size ≤ k
  t : Turn (fun k => fc k ∨ k = R) W wr
  b : Below base W wr
  rc : ¬ fc R
  rw : ¬ fw R
  rl : R < W.heap.size
  br : base ≤ R
theorem TI.rc' (h : TI W base R L most fc fw S r wr fc') : ¬ fc' R := fun hk => (h.f R hk).elim h.rc (fun h1 => by have := h.rl; omega)
theorem TI.start (hm : LM W base L S fc fw) (hn : RnIs W R L most r) (rc : ¬ fc R) (rw : ¬ fw R) (br : base ≤ R) : TI W base R L most fc fw S r W fc :=
  ⟨hm, hn, fun _ h => .inl h, ⟨rfl, rfl, rfl, Nat.le_refl _, fun _ _ _ => rfl⟩, Below.refl _ _, rc, rw, hn.cells.2.2.2.2.2.2, br⟩
theorem TI.below (h : TI W base R L most fc fw S r wr fc') (hb : Below wr.heap.size wr W') : TI W base R L most fc fw S r W' fc' :=
  ⟨h.m.below hb, (hb.block _ h.n.cells.2.2.2.2.2.2).trans h.n, h.f, ⟨hb.os.trans h.t.os, hb.tape.trans h.t.tape, hb.output.trans h.t.output, Nat.le_trans h.t.size hb.size, fun k hk hn => (hb.block k (Nat.lt_of_lt_of_le hk h.t.size)).trans (h.t.block k hk hn)⟩,
    h.b.trans (hb.mono (by obtain ⟨_, _, _, _, _, _, _, _, _, hh, _⟩ := h.m; exact hh.bs)), h.rc, h.rw, h.rl, h.br⟩
theorem TI.step (h : TI W base R L most fc fw S r wr fc') {e : Ending} (hs : LStep wr base L S' fc' fw e W') : ∃ fc2, TI W base R L most fc fw S' r W' fc2 := by
  obtain ⟨_, fc2, hm, hf, ht, hb⟩ := hs
  have hR := h.n.cells.2.2.2.2.2.2
  refine ⟨fc2, hm, (ht.block _ hR h.rc').trans h.n, fun k hk => ?_, ⟨ht.os.trans h.t.os, ht.tape.trans h.t.tape, ht.output.trans h.t.output, Nat.le_trans h.t.size ht.size, fun k hk hn => ?_⟩, h.b.trans hb, h.rc, h.rw, h.rl, h.br⟩
  · rcases hf k hk with h1 | h1
    · exact h.f k h1
    · exact .inr (Nat.le_trans h.t.size h1)
  · refine (ht.block k (Nat.lt_of_lt_of_le hk h.t.size) (fun h1 => ?_)).trans (h.t.block k hk hn)
    rcases h.f k h1 with h2 | h2
    · exact hn (.inl h2)
    · omega
theorem TI.set (h : TI W base R L most fc fw S r wr fc') (o : Nat) (v : Value) (r' : Rn) (hn : RnIs (wr.setCell ⟨R, o, none⟩ v) R L most r') : TI W base R L most fc fw S r' (wr.setCell ⟨R, o, none⟩ v) fc' := by
  have hg := grown_set wr R o v
  refine ⟨h.m.kept (fun k hk => Below.heap_setCell _ _ _ _ (fun e => ?_)) hg.size, hn, h.f, ⟨hg.os.trans h.t.os, hg.tape.trans h.t.tape, hg.output.trans h.t.output, Nat.le_trans h.t.size hg.size, fun k hk hn => ?_⟩, h.b.setCell h.br _, h.rc, h.rw, h.rl, h.br⟩
  · have e : k = R := e
    subst e
    rcases hk with h1 | h1
    · exact h.rc' h1
    · exact h.rw h1
  · exact (Below.heap_setCell _ _ _ _ (fun e => hn (.inr e))).trans (h.t.block k hk hn)
theorem TI.setT (h : TI W base R L most fc fw S r wr fc') : TI W base R L most fc fw S ⟨r.p, r.s, r.t + 1⟩ (wr.setCell ⟨R, 3, none⟩ (i64 (r.t + 1))) fc' := h.set 3 _ _ (heap_setCell_same wr R 3 _ _ _ h.n)
theorem TI.setP (h : TI W base R L most fc fw S r wr fc') : TI W base R L most fc fw S ⟨r.p + 1, r.s, r.t⟩ (wr.setCell ⟨R, 1, none⟩ (i64 (r.p + 1))) fc' := h.set 1 _ _ (heap_setCell_same wr R 1 _ _ _ h.n)
theorem TI.setS (h : TI W base R L most fc fw S r wr fc') : TI W base R L most fc fw S ⟨r.p, r.s + 1, r.t⟩ (wr.setCell ⟨R, 2, none⟩ (i64 (r.s + 1))) fc' := h.set 2 _ _ (heap_setCell_same wr R 2 _ _ _ h.n)
/-- A block of the run's own that nobody turns. -/
theorem TI.keep {b : Nat} {o : Obj} (h : TI W base R L most fc fw S r wr fc') (hb : b < W.heap.size) (hf : ¬ fc b) (hR : b ≠ R) (ho : W.heap[b]? = some o) : wr.heap[b]? = some o :=
  (h.t.block b hb (fun h1 => h1.elim hf hR)).trans ho
end Go.Proofs.Ythmockfeffikjaa
