/-
  A range over a function whose values lie in memory: what an iterator tells of each value, what a round leaves as it lay.
  The walk of the function that All of the code's memory hands back.
-/
import Derived.RangeFuncNested
import Derived.RangeFuncBound
import Derived.RangeFuncCalls
import Derived.RangeFuncLeaves
import Derived.Test.YthmockfeffikjaaJE0
import Derived.Test.YthmockfeffikjaaJE14
import Derived.LoopIn
import Derived.TacticsInMore
import Derived.LoopNIn
import Derived.Shelf.Abstract
import Derived.WalkMore
namespace Go.Proofs.Ythmockfeffikjaa
open Go.RowKit

/-- A round's word: the blocks of T lie as they lay. -/
structure KeepsT (T : Nat → Prop) (W W' : World) : Prop where
  os : W'.os = W.os
  tape : W'.tape = W.tape
  output : W'.output = W.output
  size : W.heap.size ≤ W'.heap.size
  same : ∀ k, T k → k < W.heap.size → W'.heap[k]? = W.heap[k]?

theorem KeepsT.refl (T : Nat → Prop) (W : World) : KeepsT T W W := ⟨rfl, rfl, rfl, Nat.le_refl _, fun _ _ _ => rfl⟩
theorem KeepsT.trans {T : Nat → Prop} {A B C : World} (h : KeepsT T A B) (k : KeepsT T B C) : KeepsT T A C :=
  ⟨k.os.trans h.os, k.tape.trans h.tape, k.output.trans h.output, Nat.le_trans h.size k.size, fun i hi hl => (k.same i hi (Nat.lt_of_lt_of_le hl h.size)).trans (h.same i hi hl)⟩
theorem KeepsT.mono {T T' : Nat → Prop} {A B : World} (h : KeepsT T A B) (ht : ∀ k, T' k → T k) : KeepsT T' A B := ⟨h.os, h.tape, h.output, h.size, fun k hk => h.same k (ht k hk)⟩
theorem KeepsT.putObj {T : Nat → Prop} (W : World) (l : Nat) (o : Obj) (h : ¬ T l) : KeepsT T W (W.putObj l o) :=
  ⟨rfl, rfl, rfl, by simp, fun k hk _ => World.putObj_heap_other (fun e => h (e ▸ hk))⟩
theorem KeepsT.below {T : Nat → Prop} {W W' : World} (h : Below W.heap.size W W') : KeepsT T W W' := ⟨h.os, h.tape, h.output, h.size, fun k _ hl => h.block k hl⟩
theorem KeepsT.setCell {T : Nat → Prop} (W : World) (a : Addr) (v : Value) (h : ¬ T a.block) : KeepsT T W (W.setCell a v) :=
  ⟨rfl, rfl, rfl, by simp, fun k hk _ => Below.heap_setCell W a v k (fun e => h (e ▸ hk))⟩
theorem KeepsT.grown {T : Nat → Prop} {W W' : World} {row : Option Nat} (h : W.grownBy W' row) (hr : ∀ k, row = some k → ¬ T k) : KeepsT T W W' :=
  ⟨h.os, h.tape, h.output, h.size, fun k hk hl => h.block k hl (fun e => hr k e.symm hk)⟩

theorem Row.putObj {W : World} {p : Option Addr} {cs : List Value} {l : Nat} {r : Loop} (h : Row W p cs) (hl : W.heap[l]? = some (.loop r)) (o : Obj) : Row (W.putObj l o) p cs := by
  intro hcs
  obtain ⟨b, f, hp, hc⟩ := h hcs
  exact ⟨b, f, hp, fun i hi => cell_kept (hc i hi) (grownBy_putObj' W l o) (fun r e => by cases e; exact ⟨_, hl, rfl⟩)⟩
theorem cell_putObj {W : World} {a : Addr} {v : Value} {l : Nat} {r : Loop} (h : W.cell? a = some v) (hl : W.heap[l]? = some (.loop r)) (o : Obj) : (W.putObj l o).cell? a = some v ∧ (W.putObj l o).frozen? a = W.frozen? a :=
  ⟨cell_kept h (grownBy_putObj' W l o) (fun r e => by cases e; exact ⟨_, hl, rfl⟩), frozen_kept h (grownBy_putObj' W l o) (fun r e => by cases e; exact ⟨_, hl, rfl⟩)⟩
theorem Below.putObjB {B : Nat} {a W : World} (h : Below B a W) (hB : B ≤ W.heap.size) {l : Nat} (hl : B ≤ l) (o : Obj) : Below B a (W.putObj l o) := h.grown (grownBy_putObj' W l o) hB (fun k e => by cases e; exact hl)

/-- What is owned lies on where a block of another kind turns. -/
theorem own_keptO {W W' : World} {base : Nat} {e : TypeId} {size : Nat} {v : Value} {n : Nat} {xs : List Value} {l : Nat} {o : Obj} (h : W.ownsRow base e size v n xs) (hg : W.grownBy W' (some l)) (hl : W.heap[l]? = some o) (ho : o.isCells = false) : W'.ownsRow base e size v n xs := by
  refine h.kept hg ?_
  rcases h.2 with ⟨rfl, _⟩ | ⟨g, cap, cur, rfl, _, hgg, _⟩
  · exact .inl rfl
  · refine .inr (fun e => ?_)
    have e2 : g = l := by simpa [Value.ownBlock] using e
    subst e2
    rw [hgg] at hl
    cases hl
    simp [Obj.isCells] at ho
theorem Row.keptO {W W' : World} {p : Option Addr} {cs : List Value} {l : Nat} {o : Obj} (h : Row W p cs) (hg : W.grownBy W' (some l)) (hl : W.heap[l]? = some o) (ho : o.isCells = false) : Row W' p cs := by
  intro hcs
  obtain ⟨b, f, hp, hc⟩ := h hcs
  exact ⟨b, f, hp, fun i hi => cell_kept (hc i hi) hg (fun r e => by cases e; exact ⟨_, hl, ho⟩)⟩
theorem KeepsT.drew {T : Nat → Prop} (W : World) : KeepsT T W W.drew := ⟨rfl, rfl, rfl, Nat.le_refl _, fun _ _ _ => rfl⟩

/-- The blocks that a round must leave: what the iterator had, and what has been laid since the last round. -/
def more (T : Nat → Prop) (hs : Nat) (W : World) : Nat → Prop := fun k => T k ∨ (hs ≤ k ∧ k < W.heap.size)

/-- An iterator's contract: V: what is told of each value (by what has come, and how much lay at the last round's end); St: what the iterator does between two rounds; Mine: its blocks; S: all that comes; Sp: a part of it. -/
def SeqV {α : Type} (F : Fence) (n : Nat) (P : Program) (g : Nat) (lb : Array Value) (encs : α → Array Value) (V : List α → Nat → α → World → Prop) (St : World → World → Prop) (Mine : Nat → Prop) (S Sp : List α → Prop) (w : World) : Prop :=
  ∀ (l : Nat) (J : List α → (Nat → Prop) → Nat → World → Prop) (Jx : List α → World → Prop) (W : World), Below w.heap.size w W →
    (∀ pre T hs A B, J pre T hs A → St A B → J pre T hs B) → (∀ pre A B, Jx pre A → St A B → Jx pre B) →
    (∀ pre T hs x W1, J pre T hs W1 → V pre hs x W1 → YieldAt F (n - 1) P l (encs x) W1 fun e W' =>
      (e = .returned (.bool true) ∧ J (pre ++ [x]) (more T hs W1) W'.heap.size W' ∧ KeepsT (more T hs W1) W1 W') ∨ (e = .returned (.bool false) ∧ Jx (pre ++ [x]) W')) →
    J [] Mine W.heap.size W →
    CallsIn F n P g (#[.func (.yield l) #[] #[]] ++ lb) W fun e W' => (∃ v, e = .returned v) ∧ ((∃ xs T hs, S xs ∧ J xs T hs W') ∨ (∃ pre, Sp pre ∧ Jx pre W'))

/-- How a round's body may be left. -/
def roundV {α : Type} (B : Nat) (I : List α → (Nat → Prop) → Nat → World → Prop) (Ix : Code → List α → World → Prop) (xs : List α) (T : Nat → Prop) (W : World) : Exit → Act → World → Prop
  | .normal, _, W' => KeepsT (fun k => T k ∨ k = B ∨ k = B + 1) W W' ∧ I xs T W'.heap.size W'
  | .ret, _, W' => KeepsT (fun k => k = B ∨ k = B + 1) W W' ∧ Ix .ret xs W'
  | .exit id, _, W' => KeepsT (fun k => k = B ∨ k = B + 1) W W' ∧ Ix (.exit id) xs W'
  | .goto t, _, W' => KeepsT (fun k => k = B ∨ k = B + 1) W W' ∧ Ix (.goto t) xs W'
  | .panic _, _, _ => False
  | .outgrown, _, _ => False

variable {F : Fence} {n : Nat} {P : Program}

theorem wpIn_rangeFunc_V {α : Type} {g : Operand} {ps : Array Tmp} {assign body : Code} {Q : Exit → Act → World → Prop} {a : Act} {w : World}
    (hro : F.round = none) (h1 : 1 ≤ n) {gf : Nat} {lb : Array Value} (hg : a.eval g = .func (.func gf) #[] lb) (hFg : F.fn gf) (eg : ∀ args w, (callFunc gf args).run P w = .ok (.enter gf args) w)
    {encs : α → Array Value} {V : List α → Nat → α → World → Prop} {St : World → World → Prop} {Mine : Nat → Prop} {S Sp : List α → Prop} {w0 : World} (hseq : SeqV F (n - 1) P gf lb encs V St Mine S Sp w0)
    (hb0 : Below w0.heap.size w0 w) (hps : ∀ x, (encs x).size = ps.size) (hMine : ∀ k, Mine k → k < w.heap.size)
    (hSt : ∀ W W', St W W' → ∀ (k : Nat) (o : Obj), W.heap[k]? = some o → o.isCells = false → o.isWalk = false → W'.heap[k]? = some o)
    (hV : ∀ pre hs x W (l : Nat) (r : Loop) (o : Obj), V pre hs x W → W.heap[l]? = some (.loop r) → V pre hs x (W.putObj l o))
    (I : List α → (Nat → Prop) → Nat → World → Prop) (Ix : Code → List α → World → Prop)
    (hI : ∀ pre T hs W W', I pre T hs W → St W W' → I pre T hs W') (hIx : ∀ c pre W W', Ix c pre W → St W W' → Ix c pre W')
    (hIp : ∀ pre T hs W (r : Loop) (o : Obj), I pre T hs W → W.heap[w.heap.size + 1]? = some (.loop r) → I pre T hs (W.putObj (w.heap.size + 1) o))
    (hIxp : ∀ c pre W (r : Loop) (o : Obj), Ix c pre W → W.heap[w.heap.size + 1]? = some (.loop r) → Ix c pre (W.putObj (w.heap.size + 1) o))
    (h0 : ∀ r : Loop, I [] Mine (w.heap.size + 2) ((w.alloc (.deferred (some []))).alloc (.loop r))) (a₁ : α → Act)
    (hassign : ∀ (l : Nat) (x : α) (W : World) (K : Act → World → Prop), K (a₁ x) W →
      assign.wpIn (F.inRound l) (n - 1 - 1) P (Exit.then K (fun _ _ _ => False)) { tmps := (ps.zip (encs x)).foldl (fun t (p, v) => t.setIfInBounds p v) a.tmps, defers := [] } W)
    (hbody : ∀ (l : Nat) (pre : List α) (T : Nat → Prop) (hs : Nat) (x : α) (W : World), I pre T hs W → V pre hs x W → w.heap.size + 2 ≤ hs → w.heap.size + 2 ≤ W.heap.size → (∀ k, T k → k < w.heap.size ∨ w.heap.size + 2 ≤ k) →
      body.wpIn (F.inRound l) (n - 1 - 1) P (roundV w.heap.size I Ix (pre ++ [x]) (more T hs W) W) (a₁ x) W)
    (hdone : ∀ (xs : List α) (T : Nat → Prop) (hs : Nat) (W : World), S xs → I xs T hs W → W.heap[w.heap.size]? = some (.deferred (some [])) → Q .normal { a with defers := { target := .collected w.heap.size, args := #[] } :: a.defers } W)
    (hstop : ∀ (c : Code) (pre : List α) (W : World), Sp pre → Ix c pre W → W.heap[w.heap.size]? = some (.deferred (some [])) → c.wpIn F n P Q { a with defers := { target := .collected w.heap.size, args := #[] } :: a.defers } W) :
    (Code.rangeFunc g ps assign body).wpIn F n P Q a w := by
  refine wpIn_rangeFunc ?_
  intro fn hfn
  rw [hro]
  obtain ⟨rec, hrec⟩ : ∃ rec : LoopState → Option Code → Loop, rec = fun st pe => { state := st, pending := pe, fn, tmps := a.tmps, params := ps, assign, body, defers := w.heap.size } := ⟨_, rfl⟩
  obtain ⟨W1, hW1⟩ : ∃ W1, (w.alloc (.deferred (some []))).alloc (.loop (rec .ready none)) = W1 := ⟨_, rfl⟩
  have hL1 : W1.heap[w.heap.size + 1]? = some (.loop (rec .ready none)) := by
    rw [← hW1]; have := World.alloc_heap_new (w.alloc (.deferred (some []))) (.loop (rec .ready none)); rwa [World.size_alloc] at this
  have hK1 : W1.heap[w.heap.size]? = some (.deferred (some [])) := by
    rw [← hW1]; exact (Below.heap_alloc _ _ _ (by simp)).trans (World.alloc_heap_new w _)
  have hs1 : W1.heap.size = w.heap.size + 2 := by rw [← hW1]; simp
  have hI1 : I [] Mine W1.heap.size W1 := by rw [hs1, ← hW1]; exact h0 _
  have hb1 : Below w0.heap.size w0 W1 := by
    rw [← hW1]; exact hb0.trans ((((Below.refl _ w).alloc (Nat.le_refl _) _).alloc (by simp) _).mono hb0.size)
  refine ⟨w.heap.size + 1, [{ target := .collected w.heap.size, args := #[] }], W1, { target := .fn (.func gf) lb, args := #[.func (.yield (w.heap.size + 1)) #[] #[]] }, W1, gf,
    #[.func (.yield (w.heap.size + 1)) #[] #[]] ++ lb, W1, ?_, ?_, ?_, ?_, fun _ => h1, ?_⟩
  · rw [← hW1, hrec]; exact run_enterLoop_outer _ _ _ _ _
  · simp only [resolve, hg]
    simp [go_sem]
  · intro f' hf'; simp [Target.leads] at hf'; subst hf'; exact hFg
  · simp [invoke, go_sem, eg]
  · refine (hseq (w.heap.size + 1)
      (fun pre T hs W => I pre T hs W ∧ W.heap[w.heap.size + 1]? = some (.loop (rec .ready none)) ∧ W.heap[w.heap.size]? = some (.deferred (some [])) ∧ w.heap.size + 2 ≤ hs ∧ ∀ k, T k → k < w.heap.size ∨ w.heap.size + 2 ≤ k)
      (fun pre W => ∃ c, Ix c pre W ∧ W.heap[w.heap.size + 1]? = some (.loop (rec .done (some c))) ∧ W.heap[w.heap.size]? = some (.deferred (some [])))
      W1 hb1
      (fun pre T hs A B hs' hst => ⟨hI _ _ _ _ _ hs'.1 hst, hSt _ _ hst _ _ hs'.2.1 rfl rfl, hSt _ _ hst _ _ hs'.2.2.1 rfl rfl, hs'.2.2.2.1, hs'.2.2.2.2⟩)
      (fun pre A B hs' hst => by
        obtain ⟨c, hc, hl, hk⟩ := hs'
        exact ⟨c, hIx _ _ _ _ hc hst, hSt _ _ hst _ _ hl rfl rfl, hSt _ _ hst _ _ hk rfl rfl⟩)
      ?_ ⟨hI1, hL1, hK1, by omega, fun k hk => .inl (hMine k hk)⟩).mono ?_
    · -- ONE ROUND
      rintro pre T hs x W ⟨hi, hl, hk, hhs, hT⟩ hv
      have hlt : w.heap.size + 1 < W.heap.size := (Array.getElem?_eq_some_iff.1 hl).1
      have hy := run_yield (P := P) (args := encs x) hl (by rw [hrec]; exact hps x)
      rw [hrec] at hy
      refine ⟨fn, _, assign, body, hy, roundIn_of_wpIn hfn (hassign _ x W _ ⟨_, run_beginRound hl (by rw [hrec]), ?_⟩)⟩
      have hl2 : (W.putObj (w.heap.size + 1) (.loop { rec .ready none with state := .busy })).heap[w.heap.size + 1]? = some (.loop { rec .ready none with state := .busy }) := World.putObj_heap_same hlt
      have hk2 : (W.putObj (w.heap.size + 1) (.loop { rec .ready none with state := .busy })).heap[w.heap.size]? = some (.deferred (some [])) := (World.putObj_heap_other (by omega)).trans hk
      have hmore : more T hs (W.putObj (w.heap.size + 1) (.loop { rec .ready none with state := .busy })) = more T hs W := by unfold more; rw [World.putObj_size]
      have hnot : ¬ more T hs W (w.heap.size + 1) := by
        rintro (h | h)
        · have := hT _ h; omega
        · omega
      have hT' : ∀ k, more T hs W k → k < w.heap.size ∨ w.heap.size + 2 ≤ k := by
        rintro k (h | h)
        · exact hT k h
        · right; omega
      have hb := hbody (w.heap.size + 1) pre T hs x _ (hIp _ _ _ _ _ (.loop { rec .ready none with state := .busy }) hi hl) (hV _ _ _ _ _ _ (.loop { rec .ready none with state := .busy }) hv hl) hhs (by simp; omega) hT
      rw [hmore] at hb
      refine wpIn_mono hb ?_
      have fin : ∀ (jump : Option Code) (W3 : World), KeepsT (fun k => k = w.heap.size ∨ k = w.heap.size + 1) (W.putObj (w.heap.size + 1) (.loop { rec .ready none with state := .busy })) W3 →
          (Instr.endRound (w.heap.size + 1) jump).run P W3 = .ok (.bool jump.isNone) (W3.putObj (w.heap.size + 1) (.loop (rec (if jump.isNone then .ready else .done) jump))) ∧
          W3.heap[w.heap.size + 1]? = some (.loop { rec .ready none with state := .busy }) ∧
          (W3.putObj (w.heap.size + 1) (.loop (rec (if jump.isNone then .ready else .done) jump))).heap[w.heap.size + 1]? = some (.loop (rec (if jump.isNone then .ready else .done) jump)) ∧
          (W3.putObj (w.heap.size + 1) (.loop (rec (if jump.isNone then .ready else .done) jump))).heap[w.heap.size]? = some (.deferred (some [])) := fun jump W3 hk3 => by
        have hl3 := (hk3.same (w.heap.size + 1) (.inr rfl) (by simp; omega)).trans hl2
        have := run_endRound (P := P) jump hl3
        rw [hrec] at this ⊢
        exact ⟨this, by rw [hrec] at hl3; exact hl3, World.putObj_heap_same (Array.getElem?_eq_some_iff.1 hl3).1, (World.putObj_heap_other (by omega)).trans ((hk3.same w.heap.size (.inl rfl) (by simp; omega)).trans hk2)⟩
      rintro e a3 W3 hp
      cases e with
      | normal =>
        obtain ⟨hk3, hi3⟩ := hp
        obtain ⟨hr, hl3, hl4, hk4⟩ := fin none W3 (hk3.mono (fun k hk => .inr hk))
        refine ⟨_, _, hr, .inl ⟨rfl, ⟨?_, hl4, hk4, ?_, hT'⟩, ?_⟩⟩
        · simp only [World.putObj_size]; exact hIp _ _ _ _ _ _ hi3 hl3
        · have h1 := hk3.size; simp at h1; simp; omega
        · exact ((KeepsT.putObj W _ _ hnot).trans (hk3.mono (fun k hk => .inl hk))).trans (KeepsT.putObj W3 _ _ hnot)
      | ret =>
        obtain ⟨hk3, hi3⟩ := hp
        obtain ⟨hr, hl3, hl4, hk4⟩ := fin (some .ret) W3 hk3
        exact ⟨_, _, hr, .inr ⟨rfl, .ret, hIxp _ _ _ _ _ hi3 hl3, hl4, hk4⟩⟩
      | exit id =>
        obtain ⟨hk3, hi3⟩ := hp
        obtain ⟨hr, hl3, hl4, hk4⟩ := fin (some (.exit id)) W3 hk3
        exact ⟨_, _, hr, .inr ⟨rfl, .exit id, hIxp _ _ _ _ _ hi3 hl3, hl4, hk4⟩⟩
      | goto t =>
        obtain ⟨hk3, hi3⟩ := hp
        obtain ⟨hr, hl3, hl4, hk4⟩ := fin (some (.goto t)) W3 hk3
        exact ⟨_, _, hr, .inr ⟨rfl, .goto t, hIxp _ _ _ _ _ hi3 hl3, hl4, hk4⟩⟩
      | panic ch => exact hp.elim
      | outgrown => exact hp.elim
    · -- BEHIND THE ITERATOR
      rintro e W2 ⟨⟨v, rfl⟩, (⟨xs, T, hs, hS, hi, hl, hk, _, _⟩ | ⟨pre, hSp, c, hi, hl, hk⟩)⟩
      · exact ⟨none, _, by have := run_endLoop (P := P) hl (by rw [hrec]; simp); rw [hrec] at this; exact this, hdone xs T hs _ hS (hIp _ _ _ _ _ _ hi hl) ((World.putObj_heap_other (by omega)).trans hk)⟩
      · exact ⟨some c, _, by have := run_endLoop (P := P) hl (by rw [hrec]; simp); rw [hrec] at this; exact this, hstop c pre _ hSp (hIxp _ _ _ _ _ hi hl) ((World.putObj_heap_other (by omega)).trans hk)⟩

end Go.Proofs.Ythmockfeffikjaa
namespace Go.Proofs.Ythmockfeffikjaa
open Go.RowKit
attribute [local go_sem] Oper.semAt_some
theorem wide_fnM (f : FuncId) : Fence.wide.fn f = True := rfl
theorem wide_depthM : Fence.wide.depth = none := rfl
attribute [local go_sem] wide_fnM wide_depthM
variable {w : World} {base b : Nat} {v : Value} {zs : List CeR} {cs : List Ce} {fp : Nat → Prop}

def encC (y : Int × CeR) : Array Value := #[i64 y.1, y.2.x.val y.2.p y.2.c]
/-- What All's function tells of each value. -/
def VM (cs : List Ce) (pre : List (Int × CeR)) (hs : Nat) (y : Int × CeR) (W : World) : Prop :=
  y.1 = pre.length ∧ (∃ suf, (pre ++ [y]).map (·.2.x) ++ suf = cs) ∧ SlAt W y.2.p y.2.c y.2.x.came ∧ ∀ q, y.2.p = some q → hs ≤ q.block ∧ q.block < W.heap.size
theorem vm_mk {cs : List Ce} {pre : List (Int × CeR)} {hs k B : Nat} {w3 : World} {x : Ce} {p : Option Addr} {c : Nat} (h1 : pre.length = k) (h2 : pre.map (·.2.x) = cs.take k) (h3 : cs.take k ++ [x] ++ cs.drop (k + 1) = cs)
    (ho : w3.ownsRow B 3 1 (.slice p x.came.length c) x.came.length (i64s x.came)) (hz : hs ≤ B) : VM cs pre hs ((k : Int), ⟨x, p, c⟩) w3 :=
  ⟨by rw [h1], ⟨cs.drop (k + 1), by rw [List.map_append, h2]; exact h3⟩, own_slat ho, fun q hq => ⟨by have := own_ge ho q.block (by subst hq; rfl); omega, own_lt ho q.block (by subst hq; rfl)⟩⟩
def StM (W W' : World) : Prop := Below W.heap.size W W'
def A1I (base b : Nat) (v : Value) (zs : List CeR) (cs : List Ce) (fp : Nat → Prop) (J : List (Int × CeR) → (Nat → Prop) → Nat → World → Prop) (i : Value) (wr : World) : Prop :=
  ∃ (k : Nat) (pre : List (Int × CeR)) (T : Nat → Prop) (hs : Nat), k ≤ zs.length ∧ i = .int .i64 k ∧ pre.length = k ∧ pre.map (·.2.x) = cs.take k ∧ J pre T hs wr ∧ MemIs wr base b hdL v zs ⟨cs, 0⟩ fp ∧ (∀ j, fp j → T j) ∧ hs ≤ wr.heap.size

set_option maxHeartbeats 2000000 in
theorem all1_seq (n : Nat) (hn : 1 ≤ n) (H : MemIs w base b hdL v zs ⟨cs, 0⟩ fp) (hlen : cs.length ≤ 1000000) :
    SeqV Fence.wide n Try.prog 53 #[.pointer (some ⟨b, 0, none⟩)] encC (VM cs) StM fp (fun ys => ys.map (·.2.x) = cs) (fun pre => ∃ suf, pre.map (·.2.x) ++ suf = cs) w := by
  intro l J Jx W hW hJ hJx hY h0
  have H1 := H.below hW
  have hl1 := H1.len
  dsimp only at hl1
  rw [hl1] at hlen
  have hcsE := H1.cs
  dsimp only at hcsE
  have hc0 : W.cell? ⟨b, 0, none⟩ = some v := cell_of_row _ _ 0 _ _ _ H1.head
  obtain ⟨p, c, rfl, hnc, hcm, _, _, _⟩ := own_row H1.own
  unfold maxLen at hcm
  show CallsIn Fence.wide n Try.prog 53 #[.func (.yield l) #[] #[], .pointer (some ⟨b, 0, none⟩)] W _
  refine callsIn_of_wp Try.func53 rfl (show Fence.wide.fn 53 from trivial) ?_ rfl
  simp only [Try.ntmps53, List.size_toArray, List.length_cons, List.length_nil, Nat.reduceAdd, Nat.reduceSub, Array.replicate_succ, Array.replicate_zero, List.push_toArray, List.append_toArray, List.nil_append, List.cons_append]
  have hst : A1I base b (.slice p zs.length c) zs cs fp J (.int .i64 (0 : Nat)) W := ⟨0, [], fp, W.heap.size, Nat.zero_le _, rfl, rfl, rfl, h0, H1, fun _ h => h, Nat.le_refl _⟩
  have HST := hid hst
  have HCS := hid hcsE
  have HJ := hid hJ
  have HY := hid hY
  clear hst H1 H h0 hl1 hcsE hJ hY hJx
  gi_wp2
  gi_loopw [7] (fun i wr => A1I base b (.slice p zs.length c) zs cs fp J i wr) (fun i _ => zs.length - (intOf i).toNat)
  case atStart => exact HST.out
  case round =>
    clear HST hc0
    obtain ⟨k, pre, T, hs, hk, rfl, hpl, hpm, hJ0, HM, hfT, hhs⟩ := hrel
    have HMM := hid HM
    have HPL := hid hpl
    have HPM := hid hpm
    have HJ0 := hid hJ0
    have HFT := hid hfT
    clear hpl hpm hJ0 hfT
    by_cases hlt : k < zs.length
    · have hltI : (k : Int) < zs.length := by omega
      have hmem := List.getElem_mem hlt
      have hsl := HM.sl _ hmem
      have hcm' := ok_came (HM.ok _ hmem)
      obtain ⟨p', c', e', _, _, hrow, _⟩ := own_row HM.own
      cases e'
      obtain ⟨g, o, rfl, hbz, _⟩ := hrow.at (by rw [ceRow_len]; omega)
      obtain ⟨r0, r1, r2, r3, r4, r5, r6⟩ := ce_cells hrow k hlt
      obtain ⟨y, hy⟩ : ∃ y, y = zs[k] := ⟨_, rfl⟩
      rw [← hy] at r0 r1 r2 r3 r4 r5 r6 hsl hcm'
      have HSUF : Hid (cs.take k ++ [y.x] ++ cs.drop (k + 1) = cs) := by
        have hkc : k < cs.length := by rw [HCS.out, List.length_map]; exact hlt
        have e : cs[k] = y.x := by simp only [HCS.out, List.getElem_map, hy]
        rw [← e, List.append_assoc]
        show cs.take k ++ cs[k] :: cs.drop (k + 1) = cs
        rw [← List.drop_eq_getElem_cons, List.take_append_drop]
      have HTK : Hid (cs.take k ++ [y.x] = cs.take (k + 1)) := by
        have hkc : k < cs.length := by rw [HCS.out, List.length_map]; exact hlt
        have e : cs[k] = y.x := by simp only [HCS.out, List.getElem_map, hy]
        rw [← e, Hid, ← take_succ cs k hkc]
      have HCP := hid (fun w1 (hb : Below wr.heap.size wr w1) => copied_any y.x y.p y.c w1 (by omega) (hsl.below hb))
      clear hsl hmem hrow hy HM
      obtain ⟨⟨kind, m, owner, need, came, turns, there⟩, yp, yc⟩ := y
      unfold CopyTell Ce.val at HCP
      dsimp only at *
      gi_wp2_with (gi_at_call 47; go_loud (refine (callsIn_wide.2 (HCP.out _ ((Below.refl _ wr).alloc (Nat.le_refl _) _))).mono ?_); rintro e w3 ⟨p3, c3, rfl, ho3, hb3⟩; have hb3' : Below wr.heap.size wr w3 := (((Below.refl _ wr).alloc (Nat.le_refl _) _).trans (hb3.mono (by simp))); have hsz3 : wr.heap.size ≤ w3.heap.size := hb3'.size; have HO3 := hid ho3; go_loud (have hV := vm_mk (x := ⟨kind, m, owner, need, came, turns, there⟩) HPL.out HPM.out HSUF.out (own_lower (base' := wr.heap.size) ho3 (by simp)) hhs); go_loud (obtain ⟨fn, tmps, assign, body, hy, hR⟩ := HY.out pre T hs (k, ⟨⟨kind, m, owner, need, came, turns, there⟩, p3, c3⟩) w3 (HJ.out _ _ _ _ _ HJ0.out hb3') hV); unfold encC Ce.val at hy; dsimp only at hy; have HB3 := hid hb3'; clear hb3 hb3' ho3 hV)
      refine hR.mono ?_
      clear hR hy
      have HM3 := hid (HMM.out.below HB3.out)
      have HSPL : Hid ((pre ++ [((k : Int), CeR.mk ⟨kind, m, owner, need, came, turns, there⟩ p3 c3)]).map (·.2.x) = cs.take (k + 1)) := by
        rw [Hid, List.map_append, HPM.out]; exact HTK.out
      rintro e W3 (⟨rfl, hJ3, hk3⟩ | ⟨rfl, hJx3⟩)
      · have hM4 := HM3.out.kept (W' := W3) (fun j hj => hk3.same j (.inl (HFT.out j hj)) (HM3.out.lt j hj)) hk3.size
        have HM4 := hid hM4
        have HJ4 := hid hJ3
        clear hM4 hJ3 hk3
        gi_wp2
        go_roundw
        case rel => exact ⟨k + 1, _, _, _, by omega, by go_num, by rw [List.length_append, HPL.out]; rfl, HSPL.out, HJ4.out, HM4.out, fun j hj => .inl (HFT.out j hj), Nat.le_refl _⟩
        case measure => simp [intOf]; omega
      · have HJ4 := hid hJx3
        clear hJx3
        gi_wp2
        refine bodyPost_ret (results_none rfl _ _ _) rfl ?_
        exact ⟨⟨_, rfl⟩, .inr ⟨_, ⟨cs.drop (k + 1), by rw [HSPL.out, List.take_append_drop]⟩, HJ4.out⟩⟩
    · have hkl : k = zs.length := by omega
      have hend : pre.map (·.2.x) = cs := by
        rw [HPM.out, hkl]
        have : zs.length = cs.length := by rw [HCS.out, List.length_map]
        rw [this, List.take_length]
      have HEND := hid hend
      clear hend
      gi_wp2
      go_end0
      exact ⟨⟨_, rfl⟩, .inl ⟨_, _, _, HEND.out, HJ0.out⟩⟩
end Go.Proofs.Ythmockfeffikjaa
