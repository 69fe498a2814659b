/-
  A range over a function whose values lie in memory: what an iterator tells of each value, what a round leaves as it lay.
  The map of the workers' calls in Check.
  Sorting a row of the call's own: what it is behind it.
  The two sorts: calls by their beginnings, numbers by their calls' beginnings.
-/
import Derived.RangeFuncNested
import Derived.RangeFuncBound
import Derived.RangeFuncCalls
import Derived.RangeFuncLeaves
import Derived.Test.YtdkknnmgdghioaaJF0
import Derived.Test.YtdkknnmgdghioaaJF1
import Derived.Test.YtdkknnmgdghioaaShelf
import Derived.BigQuiet
namespace Go.Proofs.Ytdkknnmgdghioaa
open Go.RowKit

/-- A round's word: the blocks of T lie as they lay. -/
structure KeepsT (T : Nat → Prop) (W W' : World) : Prop where
  os : W'.os = W.os
  tape : W'.tape = W.tape
  output : W'.output = W.output
  size : W.heap.size ≤ W'.heap.size
  same : ∀ k, T k → k < W.heap.size → W'.heap[k]? = W.heap[k]?

theorem KeepsT.refl (T : Nat → Prop) (W : World) : KeepsT T W W := ⟨rfl, rfl, rfl, Nat.le_refl _, fun _ _ _ => rfl⟩
theorem KeepsT.trans {T : Nat → Prop} {A B C : World} (h : KeepsT T A B) (k : KeepsT T B C) : KeepsT T A C :=
  ⟨k.os.trans h.os, k.tape.trans h.tape, k.output.trans h.output, Nat.le_trans h.size k.size, fun i hi hl => (k.same i hi (Nat.lt_of_lt_of_le hl h.size)).trans (h.same i hi hl)⟩
theorem KeepsT.mono {T T' : Nat → Prop} {A B : World} (h : KeepsT T A B) (ht : ∀ k, T' k → T k) : KeepsT T' A B := ⟨h.os, h.tape, h.output, h.size, fun k hk => h.same k (ht k hk)⟩
theorem KeepsT.putObj {T : Nat → Prop} (W : World) (l : Nat) (o : Obj) (h : ¬ T l) : KeepsT T W (W.putObj l o) :=
  ⟨rfl, rfl, rfl, by simp, fun k hk _ => World.putObj_heap_other (fun e => h (e ▸ hk))⟩
theorem KeepsT.below {T : Nat → Prop} {W W' : World} (h : Below W.heap.size W W') : KeepsT T W W' := ⟨h.os, h.tape, h.output, h.size, fun k _ hl => h.block k hl⟩
theorem KeepsT.setCell {T : Nat → Prop} (W : World) (a : Addr) (v : Value) (h : ¬ T a.block) : KeepsT T W (W.setCell a v) :=
  ⟨rfl, rfl, rfl, by simp, fun k hk _ => Below.heap_setCell W a v k (fun e => h (e ▸ hk))⟩
theorem KeepsT.grown {T : Nat → Prop} {W W' : World} {row : Option Nat} (h : W.grownBy W' row) (hr : ∀ k, row = some k → ¬ T k) : KeepsT T W W' :=
  ⟨h.os, h.tape, h.output, h.size, fun k hk hl => h.block k hl (fun e => hr k e.symm hk)⟩

theorem Row.putObj {W : World} {p : Option Addr} {cs : List Value} {l : Nat} {r : Loop} (h : Row W p cs) (hl : W.heap[l]? = some (.loop r)) (o : Obj) : Row (W.putObj l o) p cs := by
  intro hcs
  obtain ⟨b, f, hp, hc⟩ := h hcs
  exact ⟨b, f, hp, fun i hi => cell_kept (hc i hi) (grownBy_putObj' W l o) (fun r e => by cases e; exact ⟨_, hl, rfl⟩)⟩
theorem cell_putObj {W : World} {a : Addr} {v : Value} {l : Nat} {r : Loop} (h : W.cell? a = some v) (hl : W.heap[l]? = some (.loop r)) (o : Obj) : (W.putObj l o).cell? a = some v ∧ (W.putObj l o).frozen? a = W.frozen? a :=
  ⟨cell_kept h (grownBy_putObj' W l o) (fun r e => by cases e; exact ⟨_, hl, rfl⟩), frozen_kept h (grownBy_putObj' W l o) (fun r e => by cases e; exact ⟨_, hl, rfl⟩)⟩
theorem Below.putObjB {B : Nat} {a W : World} (h : Below B a W) (hB : B ≤ W.heap.size) {l : Nat} (hl : B ≤ l) (o : Obj) : Below B a (W.putObj l o) := h.grown (grownBy_putObj' W l o) hB (fun k e => by cases e; exact hl)

/-- What is owned lies on where a block of another kind turns. -/
theorem own_keptO {W W' : World} {base : Nat} {e : TypeId} {size : Nat} {v : Value} {n : Nat} {xs : List Value} {l : Nat} {o : Obj} (h : W.ownsRow base e size v n xs) (hg : W.grownBy W' (some l)) (hl : W.heap[l]? = some o) (ho : o.isCells = false) : W'.ownsRow base e size v n xs := by
  refine h.kept hg ?_
  rcases h.2 with ⟨rfl, _⟩ | ⟨g, cap, cur, rfl, _, hgg, _⟩
  · exact .inl rfl
  · refine .inr (fun e => ?_)
    have e2 : g = l := by simpa [Value.ownBlock] using e
    subst e2
    rw [hgg] at hl
    cases hl
    simp [Obj.isCells] at ho
theorem Row.keptO {W W' : World} {p : Option Addr} {cs : List Value} {l : Nat} {o : Obj} (h : Row W p cs) (hg : W.grownBy W' (some l)) (hl : W.heap[l]? = some o) (ho : o.isCells = false) : Row W' p cs := by
  intro hcs
  obtain ⟨b, f, hp, hc⟩ := h hcs
  exact ⟨b, f, hp, fun i hi => cell_kept (hc i hi) hg (fun r e => by cases e; exact ⟨_, hl, ho⟩)⟩
theorem KeepsT.drew {T : Nat → Prop} (W : World) : KeepsT T W W.drew := ⟨rfl, rfl, rfl, Nat.le_refl _, fun _ _ _ => rfl⟩

/-- The blocks that a round must leave: what the iterator had, and what has been laid since the last round. -/
def more (T : Nat → Prop) (hs : Nat) (W : World) : Nat → Prop := fun k => T k ∨ (hs ≤ k ∧ k < W.heap.size)

/-- An iterator's contract: V: what is told of each value (by what has come, and how much lay at the last round's end); St: what the iterator does between two rounds; Mine: its blocks; S: all that comes; Sp: a part of it. -/
def SeqV {α : Type} (F : Fence) (n : Nat) (P : Program) (g : Nat) (lb : Array Value) (encs : α → Array Value) (V : List α → Nat → α → World → Prop) (St : World → World → Prop) (Mine : Nat → Prop) (S Sp : List α → Prop) (w : World) : Prop :=
  ∀ (l : Nat) (J : List α → (Nat → Prop) → Nat → World → Prop) (Jx : List α → World → Prop) (W : World), Below w.heap.size w W →
    (∀ pre T hs A B, J pre T hs A → St A B → J pre T hs B) → (∀ pre A B, Jx pre A → St A B → Jx pre B) →
    (∀ pre T hs x W1, J pre T hs W1 → V pre hs x W1 → YieldAt F (n - 1) P l (encs x) W1 fun e W' =>
      (e = .returned (.bool true) ∧ J (pre ++ [x]) (more T hs W1) W'.heap.size W' ∧ KeepsT (more T hs W1) W1 W') ∨ (e = .returned (.bool false) ∧ Jx (pre ++ [x]) W')) →
    J [] Mine W.heap.size W →
    CallsIn F n P g (#[.func (.yield l) #[] #[]] ++ lb) W fun e W' => (∃ v, e = .returned v) ∧ ((∃ xs T hs, S xs ∧ J xs T hs W') ∨ (∃ pre, Sp pre ∧ Jx pre W'))

/-- How a round's body may be left. -/
def roundV {α : Type} (B : Nat) (I : List α → (Nat → Prop) → Nat → World → Prop) (Ix : Code → List α → World → Prop) (xs : List α) (T : Nat → Prop) (W : World) : Exit → Act → World → Prop
  | .normal, _, W' => KeepsT (fun k => T k ∨ k = B ∨ k = B + 1) W W' ∧ I xs T W'.heap.size W'
  | .ret, _, W' => KeepsT (fun k => k = B ∨ k = B + 1) W W' ∧ Ix .ret xs W'
  | .exit id, _, W' => KeepsT (fun k => k = B ∨ k = B + 1) W W' ∧ Ix (.exit id) xs W'
  | .goto t, _, W' => KeepsT (fun k => k = B ∨ k = B + 1) W W' ∧ Ix (.goto t) xs W'
  | .panic _, _, _ => False
  | .outgrown, _, _ => False

variable {F : Fence} {n : Nat} {P : Program}

theorem wpIn_rangeFunc_V {α : Type} {g : Operand} {ps : Array Tmp} {assign body : Code} {Q : Exit → Act → World → Prop} {a : Act} {w : World}
    (hro : F.round = none) (h1 : 1 ≤ n) {gf : Nat} {lb : Array Value} (hg : a.eval g = .func (.func gf) #[] lb) (hFg : F.fn gf) (eg : ∀ args w, (callFunc gf args).run P w = .ok (.enter gf args) w)
    {encs : α → Array Value} {V : List α → Nat → α → World → Prop} {St : World → World → Prop} {Mine : Nat → Prop} {S Sp : List α → Prop} {w0 : World} (hseq : SeqV F (n - 1) P gf lb encs V St Mine S Sp w0)
    (hb0 : Below w0.heap.size w0 w) (hps : ∀ x, (encs x).size = ps.size) (hMine : ∀ k, Mine k → k < w.heap.size)
    (hSt : ∀ W W', St W W' → ∀ (k : Nat) (o : Obj), W.heap[k]? = some o → o.isCells = false → o.isWalk = false → W'.heap[k]? = some o)
    (hV : ∀ pre hs x W (l : Nat) (r : Loop) (o : Obj), V pre hs x W → W.heap[l]? = some (.loop r) → V pre hs x (W.putObj l o))
    (I : List α → (Nat → Prop) → Nat → World → Prop) (Ix : Code → List α → World → Prop)
    (hI : ∀ pre T hs W W', I pre T hs W → St W W' → I pre T hs W') (hIx : ∀ c pre W W', Ix c pre W → St W W' → Ix c pre W')
    (hIp : ∀ pre T hs W (r : Loop) (o : Obj), I pre T hs W → W.heap[w.heap.size + 1]? = some (.loop r) → I pre T hs (W.putObj (w.heap.size + 1) o))
    (hIxp : ∀ c pre W (r : Loop) (o : Obj), Ix c pre W → W.heap[w.heap.size + 1]? = some (.loop r) → Ix c pre (W.putObj (w.heap.size + 1) o))
    (h0 : ∀ r : Loop, I [] Mine (w.heap.size + 2) ((w.alloc (.deferred (some []))).alloc (.loop r))) (a₁ : α → Act)
    (hassign : ∀ (l : Nat) (x : α) (W : World) (K : Act → World → Prop), K (a₁ x) W →
      assign.wpIn (F.inRound l) (n - 1 - 1) P (Exit.then K (fun _ _ _ => False)) { tmps := (ps.zip (encs x)).foldl (fun t (p, v) => t.setIfInBounds p v) a.tmps, defers := [] } W)
    (hbody : ∀ (l : Nat) (pre : List α) (T : Nat → Prop) (hs : Nat) (x : α) (W : World), I pre T hs W → V pre hs x W → w.heap.size + 2 ≤ hs → w.heap.size + 2 ≤ W.heap.size → (∀ k, T k → k < w.heap.size ∨ w.heap.size + 2 ≤ k) →
      body.wpIn (F.inRound l) (n - 1 - 1) P (roundV w.heap.size I Ix (pre ++ [x]) (more T hs W) W) (a₁ x) W)
    (hdone : ∀ (xs : List α) (T : Nat → Prop) (hs : Nat) (W : World), S xs → I xs T hs W → W.heap[w.heap.size]? = some (.deferred (some [])) → Q .normal { a with defers := { target := .collected w.heap.size, args := #[] } :: a.defers } W)
    (hstop : ∀ (c : Code) (pre : List α) (W : World), Sp pre → Ix c pre W → W.heap[w.heap.size]? = some (.deferred (some [])) → c.wpIn F n P Q { a with defers := { target := .collected w.heap.size, args := #[] } :: a.defers } W) :
    (Code.rangeFunc g ps assign body).wpIn F n P Q a w := by
  refine wpIn_rangeFunc ?_
  intro fn hfn
  rw [hro]
  obtain ⟨rec, hrec⟩ : ∃ rec : LoopState → Option Code → Loop, rec = fun st pe => { state := st, pending := pe, fn, tmps := a.tmps, params := ps, assign, body, defers := w.heap.size } := ⟨_, rfl⟩
  obtain ⟨W1, hW1⟩ : ∃ W1, (w.alloc (.deferred (some []))).alloc (.loop (rec .ready none)) = W1 := ⟨_, rfl⟩
  have hL1 : W1.heap[w.heap.size + 1]? = some (.loop (rec .ready none)) := by
    rw [← hW1]; have := World.alloc_heap_new (w.alloc (.deferred (some []))) (.loop (rec .ready none)); rwa [World.size_alloc] at this
  have hK1 : W1.heap[w.heap.size]? = some (.deferred (some [])) := by
    rw [← hW1]; exact (Below.heap_alloc _ _ _ (by simp)).trans (World.alloc_heap_new w _)
  have hs1 : W1.heap.size = w.heap.size + 2 := by rw [← hW1]; simp
  have hI1 : I [] Mine W1.heap.size W1 := by rw [hs1, ← hW1]; exact h0 _
  have hb1 : Below w0.heap.size w0 W1 := by
    rw [← hW1]; exact hb0.trans ((((Below.refl _ w).alloc (Nat.le_refl _) _).alloc (by simp) _).mono hb0.size)
  refine ⟨w.heap.size + 1, [{ target := .collected w.heap.size, args := #[] }], W1, { target := .fn (.func gf) lb, args := #[.func (.yield (w.heap.size + 1)) #[] #[]] }, W1, gf,
    #[.func (.yield (w.heap.size + 1)) #[] #[]] ++ lb, W1, ?_, ?_, ?_, ?_, fun _ => h1, ?_⟩
  · rw [← hW1, hrec]; exact run_enterLoop_outer _ _ _ _ _
  · simp only [resolve, hg]
    simp [go_sem]
  · intro f' hf'; simp [Target.leads] at hf'; subst hf'; exact hFg
  · simp [invoke, go_sem, eg]
  · refine (hseq (w.heap.size + 1)
      (fun pre T hs W => I pre T hs W ∧ W.heap[w.heap.size + 1]? = some (.loop (rec .ready none)) ∧ W.heap[w.heap.size]? = some (.deferred (some [])) ∧ w.heap.size + 2 ≤ hs ∧ ∀ k, T k → k < w.heap.size ∨ w.heap.size + 2 ≤ k)
      (fun pre W => ∃ c, Ix c pre W ∧ W.heap[w.heap.size + 1]? = some (.loop (rec .done (some c))) ∧ W.heap[w.heap.size]? = some (.deferred (some [])))
      W1 hb1
      (fun pre T hs A B hs' hst => ⟨hI _ _ _ _ _ hs'.1 hst, hSt _ _ hst _ _ hs'.2.1 rfl rfl, hSt _ _ hst _ _ hs'.2.2.1 rfl rfl, hs'.2.2.2.1, hs'.2.2.2.2⟩)
      (fun pre A B hs' hst => by
        obtain ⟨c, hc, hl, hk⟩ := hs'
        exact ⟨c, hIx _ _ _ _ hc hst, hSt _ _ hst _ _ hl rfl rfl, hSt _ _ hst _ _ hk rfl rfl⟩)
      ?_ ⟨hI1, hL1, hK1, by omega, fun k hk => .inl (hMine k hk)⟩).mono ?_
    · -- ONE ROUND
      rintro pre T hs x W ⟨hi, hl, hk, hhs, hT⟩ hv
      have hlt : w.heap.size + 1 < W.heap.size := (Array.getElem?_eq_some_iff.1 hl).1
      have hy := run_yield (P := P) (args := encs x) hl (by rw [hrec]; exact hps x)
      rw [hrec] at hy
      refine ⟨fn, _, assign, body, hy, roundIn_of_wpIn hfn (hassign _ x W _ ⟨_, run_beginRound hl (by rw [hrec]), ?_⟩)⟩
      have hl2 : (W.putObj (w.heap.size + 1) (.loop { rec .ready none with state := .busy })).heap[w.heap.size + 1]? = some (.loop { rec .ready none with state := .busy }) := World.putObj_heap_same hlt
      have hk2 : (W.putObj (w.heap.size + 1) (.loop { rec .ready none with state := .busy })).heap[w.heap.size]? = some (.deferred (some [])) := (World.putObj_heap_other (by omega)).trans hk
      have hmore : more T hs (W.putObj (w.heap.size + 1) (.loop { rec .ready none with state := .busy })) = more T hs W := by unfold more; rw [World.putObj_size]
      have hnot : ¬ more T hs W (w.heap.size + 1) := by
        rintro (h | h)
        · have := hT _ h; omega
        · omega
      have hT' : ∀ k, more T hs W k → k < w.heap.size ∨ w.heap.size + 2 ≤ k := by
        rintro k (h | h)
        · exact hT k h
        · right; omega
      have hb := hbody (w.heap.size + 1) pre T hs x _ (hIp _ _ _ _ _ (.loop { rec .ready none with state := .busy }) hi hl) (hV _ _ _ _ _ _ (.loop { rec .ready none with state := .busy }) hv hl) hhs (by simp; omega) hT
      rw [hmore] at hb
      refine wpIn_mono hb ?_
      have fin : ∀ (jump : Option Code) (W3 : World), KeepsT (fun k => k = w.heap.size ∨ k = w.heap.size + 1) (W.putObj (w.heap.size + 1) (.loop { rec .ready none with state := .busy })) W3 →
          (Instr.endRound (w.heap.size + 1) jump).run P W3 = .ok (.bool jump.isNone) (W3.putObj (w.heap.size + 1) (.loop (rec (if jump.isNone then .ready else .done) jump))) ∧
          W3.heap[w.heap.size + 1]? = some (.loop { rec .ready none with state := .busy }) ∧
          (W3.putObj (w.heap.size + 1) (.loop (rec (if jump.isNone then .ready else .done) jump))).heap[w.heap.size + 1]? = some (.loop (rec (if jump.isNone then .ready else .done) jump)) ∧
          (W3.putObj (w.heap.size + 1) (.loop (rec (if jump.isNone then .ready else .done) jump))).heap[w.heap.size]? = some (.deferred (some [])) := fun jump W3 hk3 => by
        have hl3 := (hk3.same (w.heap.size + 1) (.inr rfl) (by simp; omega)).trans hl2
        have := run_endRound (P := P) jump hl3
        rw [hrec] at this ⊢
        exact ⟨this, by rw [hrec] at hl3; exact hl3, World.putObj_heap_same (Array.getElem?_eq_some_iff.1 hl3).1, (World.putObj_heap_other (by omega)).trans ((hk3.same w.heap.size (.inl rfl) (by simp; omega)).trans hk2)⟩
      rintro e a3 W3 hp
      cases e with
      | normal =>
        obtain ⟨hk3, hi3⟩ := hp
        obtain ⟨hr, hl3, hl4, hk4⟩ := fin none W3 (hk3.mono (fun k hk => .inr hk))
        refine ⟨_, _, hr, .inl ⟨rfl, ⟨?_, hl4, hk4, ?_, hT'⟩, ?_⟩⟩
        · simp only [World.putObj_size]; exact hIp _ _ _ _ _ _ hi3 hl3
        · have h1 := hk3.size; simp at h1; simp; omega
        · exact ((KeepsT.putObj W _ _ hnot).trans (hk3.mono (fun k hk => .inl hk))).trans (KeepsT.putObj W3 _ _ hnot)
      | ret =>
        obtain ⟨hk3, hi3⟩ := hp
        obtain ⟨hr, hl3, hl4, hk4⟩ := fin (some .ret) W3 hk3
        exact ⟨_, _, hr, .inr ⟨rfl, .ret, hIxp _ _ _ _ _ hi3 hl3, hl4, hk4⟩⟩
      | exit id =>
        obtain ⟨hk3, hi3⟩ := hp
        obtain ⟨hr, hl3, hl4, hk4⟩ := fin (some (.exit id)) W3 hk3
        exact ⟨_, _, hr, .inr ⟨rfl, .exit id, hIxp _ _ _ _ _ hi3 hl3, hl4, hk4⟩⟩
      | goto t =>
        obtain ⟨hk3, hi3⟩ := hp
        obtain ⟨hr, hl3, hl4, hk4⟩ := fin (some (.goto t)) W3 hk3
        exact ⟨_, _, hr, .inr ⟨rfl, .goto t, hIxp _ _ _ _ _ hi3 hl3, hl4, hk4⟩⟩
      | panic ch => exact hp.elim
      | outgrown => exact hp.elim
    · -- BEHIND THE ITERATOR
      rintro e W2 ⟨⟨v, rfl⟩, (⟨xs, T, hs, hS, hi, hl, hk, _, _⟩ | ⟨pre, hSp, c, hi, hl, hk⟩)⟩
      · exact ⟨none, _, by have := run_endLoop (P := P) hl (by rw [hrec]; simp); rw [hrec] at this; exact this, hdone xs T hs _ hS (hIp _ _ _ _ _ _ hi hl) ((World.putObj_heap_other (by omega)).trans hk)⟩
      · exact ⟨some c, _, by have := run_endLoop (P := P) hl (by rw [hrec]; simp); rw [hrec] at this; exact this, hstop c pre _ hSp (hIxp _ _ _ _ _ hi hl) ((World.putObj_heap_other (by omega)).trans hk)⟩

end Go.Proofs.Ytdkknnmgdghioaa
namespace Go.Proofs.Ytdkknnmgdghioaa
open Go.RowKit

theorem alook_aset {κ β : Type} [DecidableEq κ] (m : List (κ × β)) (x : κ) (u : β) (y : κ) : alook (aset m x u) y = if y = x then some u else alook m y := by
  induction m with
  | nil => simp [aset, alook]
  | cons p r ih =>
    obtain ⟨a, v⟩ := p
    by_cases hx : x = a
    · subst hx
      simp only [aset, if_true, alook]
      by_cases hy : y = x
      · rw [if_pos hy, if_pos hy]
      · rw [if_neg hy, if_neg hy, if_neg hy]
    · simp only [aset, if_neg hx, alook, ih]
      by_cases hy : y = a
      · subst hy
        rw [if_pos rfl, if_neg (Ne.symm hx), if_pos rfl]
      · rw [if_neg hy, if_neg hy]
abbrev WM := List (Int × Value)
def wmV (m : WM) (k : Int) : Value := (alook m k).getD (.slice none 0 0)
/-- Each worker's row. -/
structure WInv (w : World) (base : Nat) (m : WM) (q : List Cl) : Prop where
  own : ∀ k, ∃ ys : List Cl, ys.Perm (ownW q k) ∧ w.ownsRow base 38 8 (wmV m k) ys.length (ys.flatMap Cl.cells)
  apart : ∀ k j, k ≠ j → Apart (wmV m k) (wmV m j)
theorem wmV_set (m : WM) (x : Int) (v : Value) (k : Int) : wmV (aset m x v) k = if k = x then v else wmV m k := by
  unfold wmV
  rw [alook_aset]
  by_cases h : k = x
  · simp [h]
  · simp [h]
theorem ownW_snoc (q : List Cl) (c : Cl) (k : Int) : ownW (q ++ [c]) k = if c.w = k then ownW q k ++ [c] else ownW q k := by
  unfold ownW
  rw [List.filter_append]
  by_cases h : c.w = k
  · simp [h]
  · simp [h]
theorem WInv.nil (w : World) (base : Nat) : WInv w base [] [] :=
  ⟨fun k => ⟨[], List.Perm.refl _, rfl, .inl ⟨rfl, rfl⟩⟩, fun k j _ => Apart.nil _⟩
theorem WInv.app {w w' : World} {base : Nat} {m : WM} {q : List Cl} {c : Cl} {v' : Value} {ys : List Cl} (h : WInv w base m q) (hg : w.grownBy w' (wmV m c.w).ownBlock) (hs : Stayed w (wmV m c.w) v') (hp : ys.Perm (ownW q c.w))
    (ho : w'.ownsRow base 38 8 v' (ys.length + 1) (ys.flatMap Cl.cells ++ c.cells)) : WInv w' base (aset m c.w v') (q ++ [c]) := by
  refine ⟨fun k => ?_, fun k j hkj => ?_⟩
  · rw [wmV_set, ownW_snoc]
    by_cases e : k = c.w
    · subst e
      rw [if_pos rfl, if_pos rfl]
      exact ⟨ys ++ [c], hp.append (List.Perm.refl _), by simpa using ho⟩
    · rw [if_neg e, if_neg (fun e2 => e e2.symm)]
      obtain ⟨zs, h1, h2⟩ := h.own k
      exact ⟨zs, h1, own_kept h2 hg (h.apart k c.w e)⟩
  · rw [wmV_set, wmV_set]
    by_cases e : k = c.w
    · rw [if_pos e]
      by_cases e2 : j = c.w
      · exact absurd (e.trans e2.symm) hkj
      · rw [if_neg e2]
        obtain ⟨zs, h1, h2⟩ := h.own j
        exact (h.apart c.w j (Ne.symm e2)).stayed hs (own_lt h2)
    · rw [if_neg e]
      by_cases e2 : j = c.w
      · rw [if_pos e2]
        obtain ⟨zs, h1, h2⟩ := h.own k
        exact ((h.apart c.w k (Ne.symm e)).stayed hs (own_lt h2)).symm
      · rw [if_neg e2]
        exact h.apart k j hkj
theorem WInv.sort {w w' : World} {base : Nat} {m : WM} {q : List Cl} {k : Int} {ys : List Cl} (h : WInv w base m q) (hg : w.grownBy w' (wmV m k).ownBlock) (hp : ys.Perm (ownW q k))
    (ho : w'.ownsRow base 38 8 (wmV m k) ys.length (ys.flatMap Cl.cells)) : WInv w' base m q := by
  refine ⟨fun j => ?_, h.apart⟩
  by_cases e : j = k
  · subst e; exact ⟨ys, hp, ho⟩
  · obtain ⟨zs, h1, h2⟩ := h.own j
    exact ⟨zs, h1, own_kept h2 hg (h.apart j k e)⟩
theorem WInv.keptO {w w' : World} {base b : Nat} {m : WM} {q : List Cl} {o : Obj} (h : WInv w base m q) (hg : w.grownBy w' (some b)) (hl : w.heap[b]? = some o) (ho : o.isCells = false) : WInv w' base m q :=
  ⟨fun k => by obtain ⟨zs, h1, h2⟩ := h.own k; exact ⟨zs, h1, own_keptO h2 hg hl ho⟩, h.apart⟩
theorem WInv.below {w w' : World} {base : Nat} {m : WM} {q : List Cl} (h : WInv w base m q) (hb : Below w.heap.size w w') : WInv w' base m q :=
  ⟨fun k => by obtain ⟨zs, h1, h2⟩ := h.own k; exact ⟨zs, h1, own_below h2 hb⟩, h.apart⟩
theorem WInv.grown {w w' : World} {base : Nat} {m : WM} {q : List Cl} (h : WInv w base m q) (hg : w.grownBy w' none) : WInv w' base m q :=
  ⟨fun k => by obtain ⟨zs, h1, h2⟩ := h.own k; exact ⟨zs, h1, h2.kept hg (by simp; exact Classical.em _)⟩, h.apart⟩
end Go.Proofs.Ytdkknnmgdghioaa
namespace Go.Proofs.Ytdkknnmgdghioaa
open Go.RowKit Go.Lib Go.Sort

theorem own_putRow {β : Type} [Inhabited β] (enc : β → Value) {w : World} {base g n c size : Nat} {e : TypeId} {xs : List Value} (h : w.ownsRow base e size (.slice (some ⟨g, 0, none⟩) n c) n xs) (d : Array β) (hd : d.size = n * size) (m : Nat) (os : Array Obj) :
    (grow (putRow enc (Sort.ahead w m) g 0 d) os).ownsRow base e size (.slice (some ⟨g, 0, none⟩) n c) n (d.toList.map enc) ∧ w.grownBy (grow (putRow enc (Sort.ahead w m) g 0 d) os) (some g) := by
  rcases h.2 with ⟨h0, _⟩ | ⟨g', cap', cur, hv, hge, hh, hn, hcap, hsz, htake⟩
  · cases h0
  · cases hv
    have hlt : g < w.heap.size := (Array.getElem?_eq_some_iff.1 hh).1
    have hhb : ∀ k, k < w.heap.size → (grow (putRow enc (Sort.ahead w m) g 0 d) os).heap[k]? = (putRow enc (Sort.ahead w m) g 0 d).heap[k]? := fun k hk => by
      show ((putRow enc (Sort.ahead w m) g 0 d).heap ++ os)[k]? = _
      rw [Array.getElem?_append_left]
      show k < (w.heap.modify g _).size
      simpa using hk
    have hg : (grow (putRow enc (Sort.ahead w m) g 0 d) os).heap[g]? = some (.cells (putCells enc 0 d cur) e (0, 0)) := by
      rw [hhb g hlt]
      show (w.heap.modify g (onCells (putCells enc 0 d)))[g]? = _
      rw [Array.getElem?_modify, if_pos rfl, hh]; rfl
    have hlen : n * size ≤ cur.size := by rw [hsz]; exact Nat.mul_le_mul_right _ hn
    refine ⟨⟨by simpa using hd, .inr ⟨g, c, putCells enc 0 d cur, rfl, hge, hg, hn, hcap, by unfold putCells; simpa using hsz, ?_⟩⟩, ?_⟩
    · refine List.ext_getElem (by simp [putCells, hd]; omega) fun i h1 h2 => ?_
      have hi : i < d.size := by simpa using h2
      have : i < cur.size := by omega
      simp only [List.getElem_take, Array.getElem_toList, List.getElem_map]
      unfold putCells
      rw [Array.getElem_mapIdx, if_pos ⟨Nat.zero_le _, by omega⟩, Nat.sub_zero, getElem!_pos d i hi]
    · refine ⟨rfl, rfl, rfl, ?_, fun k hk hne => ?_⟩
      · show _ ≤ ((w.heap.modify g _) ++ os).size
        simp
      · rw [hhb k hk]
        show (w.heap.modify g _)[k]? = _
        rw [Array.getElem?_modify, if_neg (fun e => hne (by rw [e]))]
theorem own_holds {β : Type} [Inhabited β] (enc : β → Value) {w : World} {base g n c size : Nat} {e : TypeId} {xs : List Value} (h : w.ownsRow base e size (.slice (some ⟨g, 0, none⟩) n c) n xs) (d : Array β) (hd : d.toList.map enc = xs) : Holds enc w g 0 d := fun j hj => by
  have hl : j < xs.length := by rw [← hd]; simpa using hj
  obtain ⟨h1, h2⟩ := own_cell h j hl
  have e : xs[j] = enc d[j]! := by
    subst hd
    simp [getElem!_pos d j hj]
  rw [Nat.zero_add]
  exact ⟨by rw [h1, e], h2⟩
theorem flatK_list {α : Type} [Inhabited α] (enc : α → List Value) (k : Nat) (hk : ∀ x, (enc x).length = k) (d : Array α) : (flatK enc k d).toList = d.toList.flatMap enc := by
  have hl : (d.toList.flatMap enc).length = k * d.size := by have := flat_len enc k hk d.toList; simpa using this
  refine List.ext_getElem (by rw [hl]; simp [Nat.mul_comm]) fun i h1 h2 => ?_
  have hi : i < d.size * k := by simpa using h1
  have hk0 : 0 < k := Nat.pos_of_ne_zero (fun e => by subst e; simp at hi)
  have hq : i / k < d.size := Nat.div_lt_of_lt_mul (by rw [Nat.mul_comm]; exact hi)
  have hr : i % k < k := Nat.mod_lt _ hk0
  have e := flat_get enc k hk d.toList (i / k) (by simpa using hq) (i % k) hr
  rw [Nat.div_add_mod, List.getElem?_eq_getElem h2] at e
  have e2 := get_flatK enc k d i hi
  rw [Array.getElem_toList]
  rw [getElem!_pos _ i (by simpa using hi)] at e2
  rw [e2, getElem!_pos d _ hq, getElem!_pos _ (i % k) (by rw [hk]; exact hr)]
  rw [Array.getElem_toList, List.getElem?_eq_getElem (by rw [hk]; exact hr)] at e
  injection e with e
  exact e.symm
theorem perm_all {α : Type} [Inhabited α] {d d' : Array α} (h : PermIn 0 d.size d d') : d'.toList.Perm d.toList := by
  have := h.2.2
  have e1 : d.extract 0 d.size = d := by simp
  have e2 : d'.extract 0 d.size = d' := by rw [← h.1]; simp
  rwa [e1, e2] at this
theorem sorted_all {α : Type} [Inhabited α] {d : Array α} {n : Nat} {lt : α → α → Bool} (hn : d.size = n) (h : SortedIn lt 0 n d) : d.toList.Pairwise (fun a b => lt b a = false) := by
  rw [List.pairwise_iff_getElem]
  intro i j hi hj hij
  have hi' : i < d.size := by simpa using hi
  have hj' : j < d.size := by simpa using hj
  have := h i j (Nat.zero_le _) hij (by omega)
  rwa [getElem!_pos d i hi', getElem!_pos d j hj'] at this
theorem lt_cmp {α : Type} (f : α → Int) (x y : α) : ltOf (fun a b => Lib.compareInt (f a) (f b)) x y = decide (f x < f y) := by
  unfold ltOf Lib.compareInt
  by_cases h1 : f x < f y
  · simp [h1]
  · by_cases h2 : f y < f x <;> simp [h1, h2]
theorem swo_cmp {α : Type} (f : α → Int) : SWO (ltOf fun a b : α => Lib.compareInt (f a) (f b)) where
  irrefl x := by rw [lt_cmp]; simp
  trans x y z h1 h2 := by rw [lt_cmp] at *; simp at *; omega
  ntrans x y z h1 h2 := by rw [lt_cmp] at *; simp at *; omega
end Go.Proofs.Ytdkknnmgdghioaa
namespace Go.Proofs.Ytdkknnmgdghioaa
open Go.RowKit Go.Lib Go.Sort

theorem quiet_eq {P : Program} {f : FuncId} {args : Array Value} {w : World} {n : Nat} {v : Value} (h : Calls P f args (w.drewN n) fun e w' => e = .returned v ∧ w' = w.drewN n) : Calls P f args (w.drewN n) fun e w'' => e = .returned v ∧ ∃ m, w'' = w.drewN m :=
  h.mono fun _ _ ⟨h1, h2⟩ => ⟨h1, n, h2⟩
set_option maxHeartbeats 1000000 in
theorem cmp36_any (l : List Cl) (bl c : Nat) (p : Option Addr) (x y : Nat) (hx : x < l.length) (hy : y < l.length) (W : World) (hcell : W.cell? ⟨bl, 0, none⟩ = some (.slice p l.length c)) (hrow : Row W p (l.flatMap Cl.cells)) :
    Calls Try.prog 36 #[.int .i64 (x : Int), .int .i64 (y : Int), .pointer (some ⟨bl, 0, none⟩)] W fun e w' => e = .returned (.int .i64 (Lib.compareInt (cAt l x).fr (cAt l y).fr)) ∧ ∃ q, w' = W.drewN q := by
  have hcon := fun W' => Try.cmp_Compare_int (cAt l x).fr (cAt l y).fr W'
  have HC := hid hcon
  obtain ⟨b, off, rfl, hbs, _⟩ := hrow.at (by have := flat_len Cl.cells 8 (fun _ => rfl) l; omega)
  have a4 := (cl_cat hrow x hx).2.2.2.2.1
  have b4 := (cl_cat hrow y hy).2.2.2.2.1
  clear hrow hcon
  generalize (cAt l x).fr = fx at a4 HC ⊢
  generalize (cAt l y).fr = fy at b4 HC ⊢
  generalize Lib.compareInt fx fy = r at HC ⊢
  generalize l.length = n at hx hy hcell
  have h1 : decide ((x : Int) < 0) = false := decide_eq_false (by omega)
  have h2 : decide ((y : Int) < 0) = false := decide_eq_false (by omega)
  have h3 : decide ((n : Int) ≤ (x : Int)) = false := decide_eq_false (by omega)
  have h4 : decide ((n : Int) ≤ (y : Int)) = false := decide_eq_false (by omega)
  have h5 : decide (n ≤ x) = false := decide_eq_false (by omega)
  have h6 : decide (n ≤ y) = false := decide_eq_false (by omega)
  go_enter Try.func36, Try.ntmps36
  go_wp2
  go_quiet ((go_at_call 31; exact quiet_eq (HC.out _)))
  go_wp2
  go_ret
  exact ⟨rfl, _, rfl⟩
theorem cmp30_any (a b : Cl) (W : World) : Calls Try.prog 30 #[.agg a.cells.toArray, .agg b.cells.toArray] W fun e w' => e = .returned (.int .i64 (Lib.compareInt a.fr b.fr)) ∧ ∃ q os', w' = grow (W.drewN q) os' := by
  have hcon := fun W' => Try.cmp_Compare_int a.fr b.fr W'
  have HC := hid hcon
  show Calls Try.prog 30 #[.agg #[.int .i64 a.w, .int .i64 a.kind, .string a.key, .int .i64 a.value, .int .i64 a.fr, .int .i64 a.to, .int .i64 a.ans, .int .i64 a.err], .agg #[.int .i64 b.w, .int .i64 b.kind, .string b.key, .int .i64 b.value, .int .i64 b.fr, .int .i64 b.to, .int .i64 b.ans, .int .i64 b.err]] W _
  clear hcon
  generalize Lib.compareInt a.fr b.fr = r at HC ⊢
  go_enter Try.func30, Try.ntmps30
  go_wp2_with (go_at_call 31; refine (HC.out _).mono ?_; rintro e w' ⟨rfl, rfl⟩)
  go_ret
  exact ⟨rfl, 0, _, by rw [alloc_eq_grow, alloc_eq_grow, grow_grow]; rfl⟩
end Go.Proofs.Ytdkknnmgdghioaa
