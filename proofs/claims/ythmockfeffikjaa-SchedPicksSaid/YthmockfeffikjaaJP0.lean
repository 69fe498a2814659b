/-
  Who can go on rises; marks that are taken at a function's end; steps of all picks.
  Two machines side by side, the law's own blocks, and the marks of the rounds that are gone.
  What SchedPicks holds while it goes through those who can go on.
-/
import Derived.Test.YthmockfeffikjaaJR1
import Derived.Test.YthmockfeffikjaaJE23
import Derived.RangeFuncLeaves
namespace Go.Proofs.Ythmockfeffikjaa
open Go.RowKit

/-- The picks one by one. -/
def SL.all (S : SL) (l : List Int) : SL := l.foldl (fun S p => S.stepN p) S
theorem all_take (S : SL) (l : List Int) (j : Nat) (h : j < l.length) : S.all (l.take (j + 1)) = (S.all (l.take j)).stepN l[j] := by
  unfold SL.all
  rw [take_succ l j h, List.foldl_append]; rfl
theorem pick_step (S : SL) (n : Int) : S.pickN n = S.stepN n := by
  unfold SL.pickN
  cases h : S.canN n
  · rw [cannot_step h]; rfl
  · rfl
theorem enabTo_pair (S : SL) (k : Nat) : (S.enabTo k).Pairwise (· < ·) := by
  unfold SL.enabTo
  rw [List.pairwise_map]
  exact ((List.pairwise_lt_range (n := k)).filter _).imp (fun h => by omega)
def lastOf (l : List Int) : Int := l.getLast?.getD (-1)
theorem lastOf_snoc (l : List Int) (x : Int) : lastOf (l ++ [x]) = x := by simp [lastOf]
theorem enab_pre {S : SL} {pre suf : List Int} {x : Int} (h : pre ++ [x] ++ suf = S.enab) : lastOf pre < x ∧ S.canN x = true ∧ (pre.length : Int) + 1 ≤ S.enab.length ∧ -1 ≤ lastOf pre := by
  have hm : x ∈ S.enab := by rw [← h]; simp
  have hx : 0 ≤ x ∧ S.canN x = true := by
    unfold SL.enab SL.enabTo at hm
    obtain ⟨i, hi, rfl⟩ := List.mem_map.1 hm
    exact ⟨by omega, (List.mem_filter.1 hi).2⟩
  have hp := enabTo_pair S S.work.length
  change S.enab.Pairwise (· < ·) at hp
  rw [← h, List.append_assoc, List.pairwise_append] at hp
  have hnn : ∀ y ∈ pre, 0 ≤ y := fun y hy => by
    have hm : y ∈ S.enab := by rw [← h]; simp [hy]
    unfold SL.enab SL.enabTo at hm
    obtain ⟨i, hi, rfl⟩ := List.mem_map.1 hm
    omega
  refine ⟨?_, hx.2, by rw [← h]; simp; omega, ?_⟩
  · unfold lastOf
    cases hl : pre.getLast? with
    | none => show (-1 : Int) < x; omega
    | some y =>
      have hy : y ∈ pre := List.mem_of_getLast? hl
      exact hp.2.2 y hy x (by simp)
  · unfold lastOf
    cases hl : pre.getLast? with
    | none => exact Int.le_refl _
    | some y => have := hnn y (List.mem_of_getLast? hl); show -1 ≤ y; omega

/-- Marks: blocks that hand over no call. -/
def markD (k : Nat) : Deferred := { target := .collected k, args := #[] }
def MarksAt (ks : List Nat) (w : World) : Prop := ks.Nodup ∧ ∀ k ∈ ks, w.heap[k]? = some (.deferred (some []))
/-- All but ks lie as they lay. -/
structure Taken (ks : List Nat) (w w' : World) : Prop where
  os : w'.os = w.os
  tape : w'.tape = w.tape
  output : w'.output = w.output
  size : w'.heap.size = w.heap.size
  same : ∀ j, j ∉ ks → w'.heap[j]? = w.heap[j]?
theorem leaves_marks {F : Fence} {n : Nat} {P : Program} {fn : Func} {tmps : Array Value} {R : Ending → World → Prop} : ∀ (ks : List Nat) (w : World), MarksAt ks w → (∀ w', Taken ks w w' → LeavesInM F n P fn tmps R [] .returning w') → LeavesInM F n P fn tmps R (ks.map markD) .returning w
  | [], w, _, h => h w ⟨rfl, rfl, rfl, rfl, fun _ _ => rfl⟩
  | k :: ks, w, hm, h => by
    have hk := hm.2 k (List.mem_cons_self ..)
    have hnd := List.nodup_cons.1 hm.1
    refine ⟨by simp, .inl ⟨k, _, rfl, run_takeDeferred hk, leaves_marks ks _ ⟨hnd.2, fun j hj => ?_⟩ (fun w' ht => h w' ⟨ht.os, ht.tape, ht.output, by rw [ht.size]; simp, fun j hj => ?_⟩)⟩⟩
    · exact (World.putObj_heap_other (fun e => hnd.1 (by rw [← e]; exact hj))).trans (hm.2 j (List.mem_cons_of_mem _ hj))
    · exact (ht.same j (fun h => hj (List.mem_cons_of_mem _ h))).trans (World.putObj_heap_other (fun e => hj (by rw [e]; exact List.mem_cons_self ..)))
end Go.Proofs.Ythmockfeffikjaa
namespace Go.Proofs.Ythmockfeffikjaa
open Go.RowKit
variable {w4 wr w' w7 W1 : World} {lo A4 M B L R : Nat} {fw fwr : Nat → Prop} {Sm Sr : SL} {ks : List Nat} {Pr : Nat → Prop}

structure PI (w4 : World) (lo A4 M B L R : Nat) (fw fwr : Nat → Prop) (Sm Sr : SL) (ks : List Nat) (Pr : Nat → Prop) (wr : World) : Prop where
  ex : ∃ fc fcr, LM wr B L Sm fc fw ∧ RLM wr M R Sr fcr fwr ∧ (∀ k, fc k ∨ fw k → ¬ fcr k) ∧ (∀ k, fcr k ∨ fwr k → ¬ fc k) ∧ ∀ k, fc k ∨ fcr k → lo ≤ k ∧ ¬ Pr k
  t : Turn (fun k => lo ≤ k) w4 wr
  a4 : wr.heap[A4]? = some (.cells #[.pointer (some ⟨R, 0, none⟩)] 46 (0, 0))
  mks : MarksAt ks wr
  kl : ∀ k ∈ ks, lo ≤ k ∧ Pr k
  pa : Pr A4
  pl : ∀ k, Pr k → k < wr.heap.size
  lo4 : lo ≤ w4.heap.size
theorem PI.a4l (H : PI w4 lo A4 M B L R fw fwr Sm Sr ks Pr wr) : A4 < wr.heap.size := (Array.getElem?_eq_some_iff.1 H.a4).1
theorem PI.ksl (H : PI w4 lo A4 M B L R fw fwr Sm Sr ks Pr wr) : ∀ k ∈ ks, k < wr.heap.size := fun k hk => (Array.getElem?_eq_some_iff.1 (H.mks.2 k hk)).1
theorem PI.lor (H : PI w4 lo A4 M B L R fw fwr Sm Sr ks Pr wr) : lo ≤ wr.heap.size := Nat.le_trans H.lo4 H.t.size
theorem PI.below (H : PI w4 lo A4 M B L R fw fwr Sm Sr ks Pr wr) (hb : Below wr.heap.size wr w') : PI w4 lo A4 M B L R fw fwr Sm Sr ks Pr w' := by
  obtain ⟨fc, fcr, h1, h2, h3, h4, h5⟩ := H.ex
  have hl := H.lor
  exact ⟨⟨fc, fcr, h1.below hb, h2.below hb, h3, h4, h5⟩, ⟨hb.os.trans H.t.os, hb.tape.trans H.t.tape, hb.output.trans H.t.output, Nat.le_trans H.t.size hb.size, fun k hk hn => (hb.block k (by have : ¬ lo ≤ k := hn; omega)).trans (H.t.block k hk hn)⟩,
    (hb.block _ H.a4l).trans H.a4, ⟨H.mks.1, fun k hk => (hb.block k (H.ksl k hk)).trans (H.mks.2 k hk)⟩, H.kl, H.pa, fun k hk => Nat.lt_of_lt_of_le (H.pl k hk) hb.size, H.lo4⟩
/-- All but the blocks of f, which are not the law's, lie on. -/
theorem PI.turn_t {f : Nat → Prop} (H : PI w4 lo A4 M B L R fw fwr Sm Sr ks Pr wr) (ht : Turn f wr w') (hf : ∀ k, f k → lo ≤ k ∧ ¬ Pr k) : Turn (fun k => lo ≤ k) w4 w' ∧ w'.heap[A4]? = some (.cells #[.pointer (some ⟨R, 0, none⟩)] 46 (0, 0)) ∧ MarksAt ks w' := by
  have hl := H.lor
  refine ⟨⟨ht.os.trans H.t.os, ht.tape.trans H.t.tape, ht.output.trans H.t.output, Nat.le_trans H.t.size ht.size, fun k hk hn => (ht.block k (by have : ¬ lo ≤ k := hn; omega) (fun h => hn (hf k h).1)).trans (H.t.block k hk hn)⟩, (ht.block _ H.a4l (fun h => (hf _ h).2 H.pa)).trans H.a4, H.mks.1, fun k hk => (ht.block k (H.ksl k hk) (fun h => (hf _ h).2 (H.kl k hk).2)).trans (H.mks.2 k hk)⟩
theorem PI.pick (H : PI w4 lo A4 M B L R fw fwr Sm Sr ks Pr wr) (n : Int) : Calls Try.prog 23 #[mi L, i64 n] wr fun e w' => e = .returned (.bool (Sm.canN n)) ∧ PI w4 lo A4 M B L R fw fwr (Sm.stepN n) Sr ks Pr w' ∧ ∀ k, Pr k → w'.heap[k]? = wr.heap[k]? := by
  obtain ⟨fc, fcr, h1, h2, h3, h4, h5⟩ := H.ex
  have hl := H.lor
  have ha := H.a4l
  have hk := H.ksl
  refine (pick_any h1 n).mono ?_
  rintro e w' ⟨rfl, fc2, g1, g2, g3, _⟩
  rw [pick_step] at g1
  obtain ⟨t1, t2, t3⟩ := H.turn_t g3 (fun k h => h5 k (.inl h))
  have hlt := h2.lt
  refine ⟨rfl, ⟨⟨fc2, fcr, g1, h2.kept (fun k hk => g3.block k (hlt k hk) (h4 k hk)) g3.size, fun k h => ?_, fun k h h6 => ?_, fun k h => ?_⟩, t1, t2, t3, H.kl, H.pa, fun k hk => Nat.lt_of_lt_of_le (H.pl k hk) g3.size, H.lo4⟩, fun k hk => g3.block k (H.pl k hk) (fun h => (h5 k (.inl h)).2 hk)⟩
  · rcases h with h | h
    · rcases g2 k h with h6 | h6
      · exact h3 k (.inl h6)
      · exact fun h7 => by have := hlt k (.inl h7); omega
    · exact h3 k (.inr h)
  · rcases g2 k h6 with h7 | h7
    · exact h4 k h h7
    · have := hlt k h; omega
  · rcases h with h | h
    · rcases g2 k h with h6 | h6
      · exact h5 k (.inl h6)
      · exact ⟨by omega, fun h7 => by have := H.pl k h7; omega⟩
    · exact h5 k (.inr h)
theorem PI.step (H : PI w4 lo A4 M B L R fw fwr Sm Sr ks Pr wr) (n : Int) : Calls Try.prog 16 #[.pointer (some ⟨R, 0, none⟩), i64 n] wr fun e w' => e = .returned (.tuple #[]) ∧ PI w4 lo A4 M B L R fw fwr Sm (Sr.stepN n) ks Pr w' := by
  obtain ⟨fc, fcr, h1, h2, h3, h4, h5⟩ := H.ex
  have hl := H.lor
  have ha := H.a4l
  have hk := H.ksl
  refine (rlstep_any h2 n).mono ?_
  rintro e w' ⟨rfl, fc2, g1, g2, g3, _⟩
  obtain ⟨t1, t2, t3⟩ := H.turn_t g3 (fun k h => h5 k (.inr h))
  have hlt := h1.lt
  refine ⟨rfl, ⟨⟨fc, fc2, h1.kept (fun k hk => g3.block k (hlt k hk) (h3 k hk)) g3.size, g1, fun k h h6 => ?_, fun k h => ?_, fun k h => ?_⟩, t1, t2, t3, H.kl, H.pa, fun k hk => Nat.lt_of_lt_of_le (H.pl k hk) g3.size, H.lo4⟩⟩
  · rcases g2 k h6 with h7 | h7
    · exact h3 k h h7
    · have := hlt k h; omega
  · rcases h with h | h
    · rcases g2 k h with h6 | h6
      · exact h4 k (.inl h6)
      · exact fun h7 => by have := hlt k (.inl h7); omega
    · exact h4 k (.inr h)
  · rcases h with h | h
    · exact h5 k (.inl h)
    · rcases g2 k h with h6 | h6
      · exact h5 k (.inr h6)
      · exact ⟨by omega, fun h7 => by have := H.pl k h7; omega⟩
theorem PI.can (H : PI w4 lo A4 M B L R fw fwr Sm Sr ks Pr wr) (n : Int) : Calls Try.prog 15 #[.pointer (some ⟨R, 0, none⟩), i64 n] wr fun e w' => e = .returned (.bool (Sr.canN n)) ∧ Below wr.heap.size wr w' := by
  obtain ⟨fc, fcr, h1, h2, _⟩ := H.ex
  exact rcan_any h2 n
theorem PI.enab (H : PI w4 lo A4 M B L R fw fwr Sm Sr ks Pr wr) : Calls Try.prog 19 #[mi L] wr (EnTell wr Sm.enab) := by
  obtain ⟨fc, fcr, h1, h2, _⟩ := H.ex
  exact enab_any h1
theorem PI.same {S : SL} (H : PI w4 lo A4 M B L R fw fwr S S ks Pr wr) : Calls Try.prog 21 #[.pointer (some ⟨L, 0, none⟩), .pointer (some ⟨R, 0, none⟩)] wr fun e w' => e = .returned (.bool true) ∧ Below wr.heap.size wr w' := by
  obtain ⟨fc, fcr, h1, h2, _⟩ := H.ex
  exact alike_any h1 h2
theorem PI.r1 (H : PI w4 lo A4 M B L R fw fwr Sm Sr ks Pr wr) : R < wr.heap.size ∧ (∃ wp wc, wr.cell? ⟨R, 1, none⟩ = some (.slice wp Sr.work.length wc)) ∧ Sr.work.length ≤ 64 := by
  obtain ⟨fc, fcr, h1, h2, _⟩ := H.ex
  obtain ⟨hl, wp, wc, c⟩ := h2.r1
  obtain ⟨_, _, _, _, _, _, _, _, _, _, hh, _⟩ := h2
  exact ⟨hl, ⟨wp, wc, c⟩, hh.n1⟩
theorem PI.mark {D X : Nat} (H : PI w4 lo A4 M B L R fw fwr Sm Sr ks Pr w7) (hb : Below w7.heap.size w7 W1) (hD : w7.heap.size ≤ D) (hX : w7.heap.size ≤ X ∧ X < W1.heap.size) (hd : W1.heap[D]? = some (.deferred (some []))) : PI w4 lo A4 M B L R fw fwr Sm Sr (D :: ks) (fun k => Pr k ∨ k = D ∨ k = X) W1 := by
  have H1 := H.below hb
  have hk := H.ksl
  have hl := H.lor
  have hDl := (Array.getElem?_eq_some_iff.1 hd).1
  obtain ⟨fc, fcr, h1, h2, h3, h4, h5⟩ := H.ex
  have hl1 := h1.lt
  have hl2 := h2.lt
  refine ⟨⟨fc, fcr, h1.below hb, h2.below hb, h3, h4, fun k h => ⟨(h5 k h).1, fun hm => ?_⟩⟩, H1.t, H1.a4, ⟨List.nodup_cons.2 ⟨fun hm => by have := hk D hm; omega, H.mks.1⟩, fun k hm => ?_⟩, fun k hm => ?_, .inl H.pa, fun k hm => ?_, H.lo4⟩
  · rcases hm with hm | hm
    · exact (h5 k h).2 hm
    · have hkl : k < w7.heap.size := by
        rcases h with h | h
        · exact hl1 k (.inl h)
        · exact hl2 k (.inl h)
      omega
  · rcases List.mem_cons.1 hm with e | hm
    · rw [e]; exact hd
    · exact H1.mks.2 k hm
  · rcases List.mem_cons.1 hm with e | hm
    · subst e; exact ⟨by omega, .inr (.inl rfl)⟩
    · exact ⟨(H.kl k hm).1, .inl (H.kl k hm).2⟩
  · rcases hm with hm | hm | hm
    · exact H1.pl k hm
    · omega
    · omega
end Go.Proofs.Ythmockfeffikjaa
namespace Go.Proofs.Ythmockfeffikjaa
open Go.RowKit
variable {w7 W W' W9 : World} {pre : List Int} {T : Nat → Prop} {hs : Nat}

def intB (n : Int) : Obj := .cells #[i64 n] 3 (0, 0)
structure EL (w7 : World) (pre : List Int) (T : Nat → Prop) (hs : Nat) (W : World) : Prop where
  b : Below w7.heap.size w7 W
  l : W.heap[w7.heap.size]? = some (intB (lastOf pre))
  n : W.heap[w7.heap.size + 1]? = some (intB pre.length)
  t9 : ¬ T w7.heap.size
  t10 : ¬ T (w7.heap.size + 1)
  h : w7.heap.size + 4 ≤ hs
  hl : hs ≤ W.heap.size
theorem EL.later (H : EL w7 pre T hs W) (hb : StM W W') : EL w7 pre T hs W' := by
  have h1 := H.h
  have h2 := H.hl
  have hz := hb.size
  exact ⟨H.b.trans (hb.mono (by omega)), (hb.block _ (by omega)).trans H.l, (hb.block _ (by omega)).trans H.n, H.t9, H.t10, H.h, by omega⟩
theorem EL.putObj (H : EL w7 pre T hs W) (o : Obj) : EL w7 pre T hs (W.putObj (w7.heap.size + 2 + 1) o) :=
  ⟨Below.putObjB H.b H.b.size (by omega) o, (World.putObj_heap_other (by omega)).trans H.l, (World.putObj_heap_other (by omega)).trans H.n, H.t9, H.t10, H.h, by have := H.hl; simpa using this⟩
theorem EL.cells (H : EL w7 pre T hs W) : W.cell? ⟨w7.heap.size, 0, none⟩ = some (i64 (lastOf pre)) ∧ W.cell? ⟨w7.heap.size + 1, 0, none⟩ = some (i64 (pre.length : Int)) ∧ (W.frozen? ⟨w7.heap.size, 0, none⟩ = false ∧ W.frozen? ⟨w7.heap.size + 1, 0, none⟩ = false) ∧ w7.heap.size + 1 < W.heap.size :=
  ⟨cell_of_row _ _ 0 _ _ _ H.l, cell_of_row _ _ 0 _ _ _ H.n, ⟨frozen_of_row _ _ _ _ _ H.l, frozen_of_row _ _ _ _ _ H.n⟩, by have := H.h; have := H.hl; omega⟩
theorem EL.next (H : EL w7 pre T hs W) (hb : Below W.heap.size W W9) (x n : Int) (hn : n = (pre.length : Int) + 1) :
    KeepsT (fun k => more T hs W k ∨ k = w7.heap.size + 2 ∨ k = w7.heap.size + 2 + 1) W ((W9.setCell ⟨w7.heap.size, 0, none⟩ (i64 x)).setCell ⟨w7.heap.size + 1, 0, none⟩ (i64 n)) ∧
    EL w7 (pre ++ [x]) (more T hs W) ((W9.setCell ⟨w7.heap.size, 0, none⟩ (i64 x)).setCell ⟨w7.heap.size + 1, 0, none⟩ (i64 n)).heap.size ((W9.setCell ⟨w7.heap.size, 0, none⟩ (i64 x)).setCell ⟨w7.heap.size + 1, 0, none⟩ (i64 n)) := by
  have h1 := H.h
  have h2 := H.hl
  have hz := hb.size
  have hsz : ((W9.setCell ⟨w7.heap.size, 0, none⟩ (i64 x)).setCell ⟨w7.heap.size + 1, 0, none⟩ (i64 n)).heap.size = W9.heap.size := by simp
  have m9 : ¬ more T hs W w7.heap.size := fun h => by
    rcases h with h | h
    · exact H.t9 h
    · omega
  have m10 : ¬ more T hs W (w7.heap.size + 1) := fun h => by
    rcases h with h | h
    · exact H.t10 h
    · omega
  have l9 := (hb.block _ (by omega)).trans H.l
  have l10 := (hb.block _ (by omega)).trans H.n
  refine ⟨(KeepsT.below hb).trans ((KeepsT.setCell W9 _ _ ?_).trans (KeepsT.setCell _ _ _ ?_)), ⟨((H.b.trans (hb.mono (by omega))).setCell (Nat.le_refl _) _).setCell (show w7.heap.size ≤ w7.heap.size + 1 by omega) _, ?_, ?_, m9, m10, by omega, Nat.le_refl _⟩⟩
  · rintro (h | h | h)
    · exact m9 h
    · have h : w7.heap.size = w7.heap.size + 2 := h; omega
    · have h : w7.heap.size = w7.heap.size + 2 + 1 := h; omega
  · rintro (h | h | h)
    · exact m10 h
    · have h : w7.heap.size + 1 = w7.heap.size + 2 := h; omega
    · have h : w7.heap.size + 1 = w7.heap.size + 2 + 1 := h; omega
  · refine (Below.heap_setCell _ _ _ _ (show w7.heap.size ≠ w7.heap.size + 1 by omega)).trans ?_
    rw [lastOf_snoc]
    exact heap_setCell_same W9 _ 0 _ _ _ l9
  · have e : (W9.setCell ⟨w7.heap.size, 0, none⟩ (i64 x)).heap[w7.heap.size + 1]? = some (intB (pre.length : Int)) := (Below.heap_setCell _ _ _ _ (show w7.heap.size + 1 ≠ w7.heap.size by omega)).trans l10
    rw [List.length_append, List.length_singleton]
    have := heap_setCell_same (W9.setCell ⟨w7.heap.size, 0, none⟩ (i64 x)) (w7.heap.size + 1) 0 _ _ (i64 n) e
    rw [hn] at this ⊢
    exact this
theorem enab_len {S : SL} (h : S.work.length ≤ 64) : S.enab.length ≤ 64 := by
  unfold SL.enab SL.enabTo
  rw [List.length_map]
  exact Nat.le_trans (List.length_filter_le _ _) (by simpa using h)
/-- What the loads of a pick's test read. -/
structure PS (X A4 R : Nat) (n : Int) (W : World) : Prop where
  hX : W.heap[X]? = some (intB n)
  h4 : W.heap[A4]? = some (.cells #[.pointer (some ⟨R, 0, none⟩)] 46 (0, 0))
theorem PS.drew {X A4 R : Nat} {n : Int} (h : PS X A4 R n W) : PS X A4 R n W.drew := ⟨h.hX, h.h4⟩
theorem PS.below {X A4 R : Nat} {n : Int} (h : PS X A4 R n W) (hb : Below W.heap.size W W') : PS X A4 R n W' :=
  ⟨(hb.block _ (Array.getElem?_eq_some_iff.1 h.hX).1).trans h.hX, (hb.block _ (Array.getElem?_eq_some_iff.1 h.h4).1).trans h.h4⟩
end Go.Proofs.Ythmockfeffikjaa
