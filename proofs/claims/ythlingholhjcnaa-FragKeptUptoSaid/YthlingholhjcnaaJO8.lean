/-
  A range over a function within an iterator: an iterator's contract whose own steps may turn blocks of book-keeping that it laid itself; the law of the loop over it.
  A map's lookup and update at the operation, within a fence; the book-keeping of a range over a function that leaves cells of some types alone.
  frag.branch: what it answers.
  Append and make at the operation, within a fence.
  slices.Backward over marks: what its function yields.
  frag.Items: a part's items.
  The law's begun answers true.
  FragOnes: the law's walk.
  What comes in, opened type by type, and how much of its bulk we count: for the statements of the second form.
-/
import Derived.RangeFuncNested
import Derived.RangeFuncBound
import Derived.RangeFuncCalls
import Derived.RangeFuncLeaves
import Derived.Test.YthlingholhjcnaaJO0
import Derived.OwnWalkIn
import Derived.Test.YthlingholhjcnaaJO7
import Derived.Laws.AppendOwnNone
import Derived.WalkMore
import Derived.LoopNIn
import Derived.LoopIn
import Derived.TacticsInMore
import Derived.Shelf.Abstract
import Derived.Deep.CutBlock
import Derived.Test.YthlingholhjcnaaRows
namespace Go.Proofs.Ythlingholhjcnaa
open Go.RowKit

/-- As the library's contract, but the iterator may turn whatever is no cells and lies at or beyond its beginning; a round leaves such blocks. -/
def SeqO {α : Type} (F : Fence) (n : Nat) (P : Program) (g : Nat) (lb : Array Value) (encs : α → Array Value) (Kp : World → World → Prop) (S Sp : List α → Prop) (N : Nat) (w : World) : Prop :=
  ∀ (l : Nat) (J Jx : List α → World → Prop) (W : World), Below w.heap.size w W → OwnFrom W.heap.size J → OwnFrom W.heap.size Jx →
    (∀ pre x W1, J pre W1 → pre.length < N → YieldAt F (n - 1) P l (encs x) W1 fun e W' =>
      ((e = .returned (.bool true) ∧ J (pre ++ [x]) W' ∧ Kp W1 W') ∨ (e = .returned (.bool false) ∧ Jx (pre ++ [x]) W')) ∧ KeepsFrom W.heap.size W1 W') →
    J [] W →
    CallsIn F n P g (#[.func (.yield l) #[] #[]] ++ lb) W fun e W' => (∃ v, e = .returned v) ∧ ((∃ xs, S xs ∧ J xs W') ∨ (∃ pre, Sp pre ∧ Jx pre W'))

variable {F : Fence} {n : Nat} {P : Program}

theorem wpIn_rangeFunc_O {α : Type} {g : Operand} {ps : Array Tmp} {assign body : Code} {Q : Exit → Act → World → Prop} {a : Act} {w : World}
    (hro : F.round = none) (h1 : 1 ≤ n) {gf : Nat} {lb : Array Value} (hg : a.eval g = .func (.func gf) #[] lb) (hFg : F.fn gf) (eg : ∀ args w, (callFunc gf args).run P w = .ok (.enter gf args) w)
    {encs : α → Array Value} {Kp : World → World → Prop} {S Sp : List α → Prop} {N : Nat} {w0 : World} (hseq : SeqO F (n - 1) P gf lb encs Kp S Sp N w0)
    (hKt : ∀ {A B C : World}, Kp A B → Kp B C → Kp A C) (hKb : ∀ (W : World) (l : Nat) (o o' : Obj), w.heap.size ≤ l → W.heap[l]? = some o → o.isCells = false → o.isWalk = false → Kp W (W.putObj l o')) (hb0 : Below w0.heap.size w0 w) (hps : ∀ x, (encs x).size = ps.size)
    (I : List α → World → Prop) (Ix : Code → List α → World → Prop) (hI : OwnFrom w.heap.size I) (hIx : ∀ c, OwnFrom w.heap.size (Ix c)) (h0 : I [] w) (a₁ : α → Act)
    (hassign : ∀ (l : Nat) (x : α) (W : World) (K : Act → World → Prop), K (a₁ x) W →
      assign.wpIn (F.inRound l) (n - 1 - 1) P (Exit.then K (fun _ _ _ => False)) { tmps := (ps.zip (encs x)).foldl (fun t (p, v) => t.setIfInBounds p v) a.tmps, defers := [] } W)
    (hbody : ∀ (l : Nat) (pre : List α) (x : α) (W : World), I pre W → pre.length < N → body.wpIn (F.inRound l) (n - 1 - 1) P (ownPostG w.heap.size Kp I Ix (pre ++ [x]) W) (a₁ x) W)
    (hdone : ∀ (xs : List α) (W : World), S xs → I xs W → W.heap[w.heap.size]? = some (.deferred (some [])) → Q .normal { a with defers := { target := .collected w.heap.size, args := #[] } :: a.defers } W)
    (hstop : ∀ (c : Code) (pre : List α) (W : World), Sp pre → Ix c pre W → W.heap[w.heap.size]? = some (.deferred (some [])) → c.wpIn F n P Q { a with defers := { target := .collected w.heap.size, args := #[] } :: a.defers } W) :
    (Code.rangeFunc g ps assign body).wpIn F n P Q a w := by
  refine wpIn_rangeFunc ?_
  intro fn hfn
  rw [hro]
  obtain ⟨rec, hrec⟩ : ∃ rec : LoopState → Option Code → Loop, rec = fun st pe => { state := st, pending := pe, fn, tmps := a.tmps, params := ps, assign, body, defers := w.heap.size } := ⟨_, rfl⟩
  obtain ⟨W1, hW1⟩ : ∃ W1, (w.alloc (.deferred (some []))).alloc (.loop (rec .ready none)) = W1 := ⟨_, rfl⟩
  have hL1 : W1.heap[w.heap.size + 1]? = some (.loop (rec .ready none)) := by
    rw [← hW1]; have := World.alloc_heap_new (w.alloc (.deferred (some []))) (.loop (rec .ready none)); rwa [World.size_alloc] at this
  have hK1 : W1.heap[w.heap.size]? = some (.deferred (some [])) := by
    rw [← hW1]; exact (Below.heap_alloc _ _ _ (by simp)).trans (World.alloc_heap_new w _)
  have hs1 : W1.heap.size = w.heap.size + 2 := by rw [← hW1]; simp
  have hI1 : I [] W1 := by rw [← hW1]; exact hI.alloc _ (hI.alloc _ h0)
  have hb1 : Below w0.heap.size w0 W1 := by
    rw [← hW1]; exact hb0.trans ((((Below.refl _ w).alloc (Nat.le_refl _) _).alloc (by simp) _).mono hb0.size)
  refine ⟨w.heap.size + 1, [{ target := .collected w.heap.size, args := #[] }], W1, { target := .fn (.func gf) lb, args := #[.func (.yield (w.heap.size + 1)) #[] #[]] }, W1, gf,
    #[.func (.yield (w.heap.size + 1)) #[] #[]] ++ lb, W1, ?_, ?_, ?_, ?_, fun _ => h1, ?_⟩
  · rw [← hW1, hrec]; exact run_enterLoop_outer _ _ _ _ _
  · simp only [resolve, hg]
    simp [go_sem]
  · intro f' hf'; simp [Target.leads] at hf'; subst hf'; exact hFg
  · simp [invoke, go_sem, eg]
  · have hnw : ∀ {A : World} {row : Option Nat}, (∀ r, row = some r → W1.heap.size ≤ r ∧ ∃ o : Obj, A.heap[r]? = some o ∧ o.isCells = false) → (∀ r, row = some r → w.heap.size ≤ r ∧ ∃ o : Obj, A.heap[r]? = some o ∧ o.isCells = false) :=
      fun hr r e => ⟨by have := (hr r e).1; omega, (hr r e).2⟩
    have hst : ∀ {A B : World} {row : Option Nat} {k : Nat} {o : Obj}, A.grownBy B row → (∀ r, row = some r → W1.heap.size ≤ r ∧ ∃ o : Obj, A.heap[r]? = some o ∧ o.isCells = false) → k < W1.heap.size → A.heap[k]? = some o → B.heap[k]? = some o :=
      fun hg hr hk h => (hg.block _ (Array.getElem?_eq_some_iff.1 h).1 (fun e => by have := (hr _ e.symm).1; omega)).trans h
    refine (hseq (w.heap.size + 1)
      (fun pre W => I pre W ∧ W.heap[w.heap.size + 1]? = some (.loop (rec .ready none)) ∧ W.heap[w.heap.size]? = some (.deferred (some [])))
      (fun pre W => ∃ c, Ix c pre W ∧ W.heap[w.heap.size + 1]? = some (.loop (rec .done (some c))) ∧ W.heap[w.heap.size]? = some (.deferred (some [])))
      W1 hb1
      (fun s A B row hs hg' hr => ⟨hI s A B row hs.1 hg' (hnw hr), hst hg' hr (by omega) hs.2.1, hst hg' hr (by omega) hs.2.2⟩)
      (fun s A B row hs hg' hr => by
        obtain ⟨c, hc, hl, hk⟩ := hs
        exact ⟨c, hIx c s A B row hc hg' (hnw hr), hst hg' hr (by omega) hl, hst hg' hr (by omega) hk⟩)
      ?_ ⟨hI1, hL1, hK1⟩).mono ?_
    · -- ONE ROUND
      rintro pre x W ⟨hi, hl, hk⟩ hlen
      have hlt : w.heap.size + 1 < W.heap.size := (Array.getElem?_eq_some_iff.1 hl).1
      have hy := run_yield (P := P) (args := encs x) hl (by rw [hrec]; exact hps x)
      rw [hrec] at hy
      refine ⟨fn, _, assign, body, hy, roundIn_of_wpIn hfn (hassign _ x W _ ⟨_, run_beginRound hl (by rw [hrec]), ?_⟩)⟩
      have hl2 : (W.putObj (w.heap.size + 1) (.loop { rec .ready none with state := .busy })).heap[w.heap.size + 1]? = some (.loop { rec .ready none with state := .busy }) := World.putObj_heap_same hlt
      have hk2 : (W.putObj (w.heap.size + 1) (.loop { rec .ready none with state := .busy })).heap[w.heap.size]? = some (.deferred (some [])) := (World.putObj_heap_other (by omega)).trans hk
      have hw2 : Kp W (W.putObj (w.heap.size + 1) (.loop { rec .ready none with state := .busy })) := hKb _ _ _ _ (by omega) hl rfl rfl
      refine wpIn_mono (hbody _ pre x _ (hI.putObj _ hi (by omega) hl rfl) hlen) ?_
      have fin : ∀ (jump : Option Code) (W3 : World), KeepsFrom w.heap.size (W.putObj (w.heap.size + 1) (.loop { rec .ready none with state := .busy })) W3 →
          (Instr.endRound (w.heap.size + 1) jump).run P W3 = .ok (.bool jump.isNone) (W3.putObj (w.heap.size + 1) (.loop (rec (if jump.isNone then .ready else .done) jump))) ∧
          W3.heap[w.heap.size + 1]? = some (.loop { rec .ready none with state := .busy }) ∧
          (W3.putObj (w.heap.size + 1) (.loop (rec (if jump.isNone then .ready else .done) jump))).heap[w.heap.size + 1]? = some (.loop (rec (if jump.isNone then .ready else .done) jump)) ∧
          (W3.putObj (w.heap.size + 1) (.loop (rec (if jump.isNone then .ready else .done) jump))).heap[w.heap.size]? = some (.deferred (some [])) := fun jump W3 hk3 => by
        have hl3 := hk3.same _ _ (by omega) hl2 rfl
        have := run_endRound (P := P) jump hl3
        rw [hrec] at this ⊢
        exact ⟨this, by rw [hrec] at hl3; exact hl3, World.putObj_heap_same (Array.getElem?_eq_some_iff.1 hl3).1, (World.putObj_heap_other (by omega)).trans (hk3.same _ _ (Nat.le_refl _) hk2 rfl)⟩
      have hput : ∀ (W : World) (o : Obj), KeepsFrom W1.heap.size W (W.putObj (w.heap.size + 1) o) := fun W o => KeepsFrom.of_grownBy (grownBy_putObj' W _ o) (fun j e => by cases e; omega)
      rintro e a3 W3 hp
      cases e with
      | normal =>
        obtain ⟨hk3, hkp3, hi3⟩ := hp
        obtain ⟨hr, hl3, hl4, hk4⟩ := fin none W3 hk3
        exact ⟨_, _, hr, .inl ⟨rfl, ⟨hI.putObj _ hi3 (by omega) hl3 rfl, hl4, hk4⟩, hKt (hKt hw2 hkp3) (hKb _ _ _ _ (by omega) hl3 rfl rfl)⟩, ((hput _ _).trans ⟨hk3.size, fun k o hB => hk3.same k o (by omega)⟩).trans (hput _ _)⟩
      | ret =>
        obtain ⟨hk3, hi3⟩ := hp
        obtain ⟨hr, hl3, hl4, hk4⟩ := fin (some .ret) W3 hk3
        exact ⟨_, _, hr, .inr ⟨rfl, .ret, (hIx _).putObj _ hi3 (by omega) hl3 rfl, hl4, hk4⟩, ((hput _ _).trans ⟨hk3.size, fun k o hB => hk3.same k o (by omega)⟩).trans (hput _ _)⟩
      | exit id =>
        obtain ⟨hk3, hi3⟩ := hp
        obtain ⟨hr, hl3, hl4, hk4⟩ := fin (some (.exit id)) W3 hk3
        exact ⟨_, _, hr, .inr ⟨rfl, .exit id, (hIx _).putObj _ hi3 (by omega) hl3 rfl, hl4, hk4⟩, ((hput _ _).trans ⟨hk3.size, fun k o hB => hk3.same k o (by omega)⟩).trans (hput _ _)⟩
      | goto t =>
        obtain ⟨hk3, hi3⟩ := hp
        obtain ⟨hr, hl3, hl4, hk4⟩ := fin (some (.goto t)) W3 hk3
        exact ⟨_, _, hr, .inr ⟨rfl, .goto t, (hIx _).putObj _ hi3 (by omega) hl3 rfl, hl4, hk4⟩, ((hput _ _).trans ⟨hk3.size, fun k o hB => hk3.same k o (by omega)⟩).trans (hput _ _)⟩
      | panic ch => exact hp.elim
      | outgrown => exact hp.elim
    · -- BEHIND THE ITERATOR
      rintro e W2 ⟨⟨v, rfl⟩, (⟨xs, hS, hi, hl, hk⟩ | ⟨pre, hSp, c, hi, hl, hk⟩)⟩
      · exact ⟨none, _, by have := run_endLoop (P := P) hl (by rw [hrec]; simp); rw [hrec] at this; exact this, hdone xs _ hS (hI.putObj _ hi (by omega) hl rfl) ((World.putObj_heap_other (by omega)).trans hk)⟩
      · exact ⟨some c, _, by have := run_endLoop (P := P) hl (by rw [hrec]; simp); rw [hrec] at this; exact this, hstop c pre _ hSp ((hIx c).putObj _ hi (by omega) hl rfl) ((World.putObj_heap_other (by omega)).trans hk)⟩

/-- What lay below n₀ lies on; each cell of type T lies on. -/
def KpO (n₀ : Nat) (T : TypeId) (W W' : World) : Prop := Below n₀ W W' ∧ W.heap.size ≤ W'.heap.size ∧ ∀ (k : Nat) (cs : Array Value) (fz : Nat × Nat), W.heap[k]? = some (.cells cs T fz) → W'.heap[k]? = some (.cells cs T fz)
theorem KpO.trans {n₀ : Nat} {T : TypeId} {A B C : World} (h : KpO n₀ T A B) (k : KpO n₀ T B C) : KpO n₀ T A C := ⟨h.1.trans k.1, Nat.le_trans h.2.1 k.2.1, fun i cs fz hi => k.2.2 i cs fz (h.2.2 i cs fz hi)⟩
theorem KpO.putObj {n₀ : Nat} {T : TypeId} {w : World} (hn : n₀ ≤ w.heap.size) (W : World) (l : Nat) (o o' : Obj) (hl : w.heap.size ≤ l) (h : W.heap[l]? = some o) (hc : o.isCells = false) (hw : o.isWalk = false) : KpO n₀ T W (W.putObj l o') :=
  ⟨belowK_b hn W l o o' hl h hc hw, by simp, fun k cs fz hk => (World.putObj_heap_other (fun e => by subst e; rw [hk] at h; cases h; simp [Obj.isCells] at hc)).trans hk⟩
theorem KpO.alloc {n₀ : Nat} {T : TypeId} (W : World) (hn : n₀ ≤ W.heap.size) (o : Obj) : KpO n₀ T W (W.alloc o) :=
  ⟨(Below.refl _ _).alloc hn _, by simp, fun k _ _ hk => (Below.heap_alloc _ _ _ (Array.getElem?_eq_some_iff.1 hk).1).trans hk⟩
theorem KpO.refl (n₀ : Nat) (T : TypeId) (W : World) : KpO n₀ T W W := ⟨Below.refl _ _, Nat.le_refl _, fun _ _ _ h => h⟩
/-- A step that turns one block of cells of another type beyond n₀. -/
theorem KpO.grown {n₀ : Nat} {T : TypeId} {W W' : World} {row : Option Nat} (hg : W.grownBy W' row) (hn : n₀ ≤ W.heap.size) (hr : ∀ k, row = some k → n₀ ≤ k ∧ ∀ cs fz, W.heap[k]? ≠ some (.cells cs T fz)) : KpO n₀ T W W' :=
  ⟨(Below.refl _ _).grown hg hn (fun k e => (hr k e).1), hg.size, fun k cs fz hk => (hg.block k (Array.getElem?_eq_some_iff.1 hk).1 (fun e => (hr k e.symm).2 cs fz hk)).trans hk⟩
end Go.Proofs.Ythlingholhjcnaa
namespace Go.Proofs.Ythlingholhjcnaa
open Go.RowKit
section
variable {κ β : Type} [DecidableEq κ] {P : Program} {k : TypeId} {mk : κ → Value} {mv : β → Value}

/-- 'm[x]' and 'v, ok := m[x]' at the operation, within a fence. -/
theorem wpListIn_maplook {F : Fence} {fn : Nat} {w : World} {ops : Array Oper} {rest : List Oper} {o : Oper} {a : Act} {Q : Exit → Act → World → Prop} {t el : TypeId}
    (K : KeyOk P k mk) (ht : P.underlying t = some (.map k el)) (hg : o.guard = none) (mo xo : Operand) (c : Bool) (hop : o.op = Op.lookup t mo xo c)
    (z : Value) (hz : (zeroValue el).run P w = .ok z w) (b : Nat) (m : List (κ × β)) (hm : a.eval mo = .map (some b)) (h : MapIs mk mv w b m) (x : κ) (hx : a.eval xo = mk x)
    (hK : wpListIn F fn P ops Q rest (a.put o.dst (if c then .tuple #[((alook m x).map mv).getD z, .bool (alook m x).isSome] else ((alook m x).map mv).getD z)) w) : wpListIn F fn P ops Q (o :: rest) a w := by
  refine wpListIn_plain hg fun K' hK' => ?_
  unfold Oper.wpIn
  refine ⟨?_, ?_⟩
  · simp [Oper.about, hop]
  · rw [Oper.semAt_plain F _ _ (by rw [hop]; intro c hc'; cases hc')]
    simp [execOp, hop, hm, hx, h.run_lookup K ht hz x c, Result.andThen]
    exact hK' _ _ hK

/-- 'm[x] = u' at the operation, within a fence. -/
theorem wpListIn_mapset {F : Fence} {fn : Nat} {w : World} {ops : Array Oper} {rest : List Oper} {o : Oper} {a : Act} {Q : Exit → Act → World → Prop} {t el : TypeId}
    (K : KeyOk P k mk) (ht : P.underlying t = some (.map k el)) (hg : o.guard = none) (mo xo vo : Operand) (hop : o.op = Op.mapUpdate t mo xo vo ∨ o.op = Op.insert t mo xo vo)
    (b : Nat) (m : List (κ × β)) (hm : a.eval mo = .map (some b)) (h : MapIs mk mv w b m) (x : κ) (hx : a.eval xo = mk x) (u : β) (hu : a.eval vo = mv u)
    (hK : ∀ w', MapIs mk mv w' b (aset m x u) → w.grownBy w' (some b) → wpListIn F fn P ops Q rest (a.put o.dst undef) w') : wpListIn F fn P ops Q (o :: rest) a w := by
  refine wpListIn_plain hg fun K' hK' => ?_
  obtain ⟨w', hrun, r1, r2⟩ := h.run_update K ht x u
  unfold Oper.wpIn
  rcases hop with hop | hop
  · refine ⟨?_, ?_⟩
    · simp [Oper.about, hop]
    · rw [Oper.semAt_plain F _ _ (by rw [hop]; intro c hc'; cases hc')]
      simp [execOp, hop, hm, hx, hu, hrun, Result.andThen]
      exact hK' _ _ (hK w' r1 r2)
  · refine ⟨?_, ?_⟩
    · simp [Oper.about, hop]
    · rw [Oper.semAt_plain F _ _ (by rw [hop]; intro c hc'; cases hc')]
      simp [execOp, hop, hm, hx, hu, hrun, Result.andThen]
      exact hK' _ _ (hK w' r1 r2)
end

/-- What lay below n₀ lies on; each cell of the types S lies on. -/
def KpT (n₀ : Nat) (S : TypeId → Bool) (W W' : World) : Prop := Below n₀ W W' ∧ W.heap.size ≤ W'.heap.size ∧ ∀ (k : Nat) (cs : Array Value) (T : TypeId) (fz : Nat × Nat), S T = true → W.heap[k]? = some (.cells cs T fz) → W'.heap[k]? = some (.cells cs T fz)
theorem KpT.trans {n₀ : Nat} {S : TypeId → Bool} {A B C : World} (h : KpT n₀ S A B) (k : KpT n₀ S B C) : KpT n₀ S A C := ⟨h.1.trans k.1, Nat.le_trans h.2.1 k.2.1, fun i cs T fz hs hi => k.2.2 i cs T fz hs (h.2.2 i cs T fz hs hi)⟩
theorem KpT.putObj {n₀ : Nat} {S : TypeId → Bool} {w : World} (hn : n₀ ≤ w.heap.size) (W : World) (l : Nat) (o o' : Obj) (hl : w.heap.size ≤ l) (h : W.heap[l]? = some o) (hc : o.isCells = false) (hw : o.isWalk = false) : KpT n₀ S W (W.putObj l o') :=
  ⟨belowK_b hn W l o o' hl h hc hw, by simp, fun k cs T fz _ hk => (World.putObj_heap_other (fun e => by subst e; rw [hk] at h; cases h; simp [Obj.isCells] at hc)).trans hk⟩
theorem KpT.alloc {n₀ : Nat} {S : TypeId → Bool} (W : World) (hn : n₀ ≤ W.heap.size) (o : Obj) : KpT n₀ S W (W.alloc o) :=
  ⟨(Below.refl _ _).alloc hn _, by simp, fun k _ _ _ _ hk => (Below.heap_alloc _ _ _ (Array.getElem?_eq_some_iff.1 hk).1).trans hk⟩
theorem KpT.refl (n₀ : Nat) (S : TypeId → Bool) (W : World) : KpT n₀ S W W := ⟨Below.refl _ _, Nat.le_refl _, fun _ _ _ _ _ h => h⟩
theorem KpT.less {n₀ n₁ : Nat} {S S' : TypeId → Bool} {A B : World} (h : KpT n₁ S A B) (hn : n₀ ≤ n₁) (hs : ∀ T, S' T = true → S T = true) (hA : n₁ ≤ A.heap.size) : KpT n₀ S' A B :=
  ⟨h.1.mono hn, h.2.1, fun k cs T fz hT hk => h.2.2 k cs T fz (hs T hT) hk⟩
/-- A step that turns one block beyond n₀ that is no cells of those types. -/
theorem KpT.grown {n₀ : Nat} {S : TypeId → Bool} {W W' : World} {row : Option Nat} (hg : W.grownBy W' row) (hn : n₀ ≤ W.heap.size) (hr : ∀ k, row = some k → n₀ ≤ k ∧ ∀ cs T fz, S T = true → W.heap[k]? ≠ some (.cells cs T fz)) : KpT n₀ S W W' :=
  ⟨(Below.refl _ _).grown hg hn (fun k e => (hr k e).1), hg.size, fun k cs T fz hT hk => (hg.block k (Array.getElem?_eq_some_iff.1 hk).1 (fun e => (hr k e.symm).2 cs T fz hT hk)).trans hk⟩
end Go.Proofs.Ythlingholhjcnaa
namespace Go.Proofs.Ythlingholhjcnaa
open Go.RowKit
variable {W W' w w' : World}
def Mk.val (k : Mk) : Value := .agg k.cells.toArray
structure Itm where
  kind : Int
  size : Int
  align : Int
  dest : Int
  add : Int
  low : Int
  high : Int
  deriving DecidableEq
def Itm.cells (x : Itm) : List Value := [.int .i64 x.kind, .int .i64 x.size, .int .i64 x.align, .int .i64 x.dest, .int .i64 x.add, .int .i64 x.low, .int .i64 x.high]
def Itm.zero : Itm := ⟨0, 0, 0, 0, 0, 0, 0⟩
def brP (lk : ByteArray → Option Mk) (part : Int) (n : ByteArray) (l : List Oc) : Option Itm :=
  if (growsP n l).2.2 then match l.getLast? with
    | none => none
    | some o => match lk o.v.plus with
      | none => none
      | some k => if k.equ || (k.part != part) then none else some ⟨3, 0, 0, k.piece, o.v.add, (growsP n l).1, (growsP n l).2.1⟩
  else none
def BrT (lk : ByteArray → Option Mk) (part : Int) (n : ByteArray) (l : List Oc) (w : World) (e : Ending) (w' : World) : Prop := e = .returned (.tuple #[.agg ((brP lk part n l).getD Itm.zero).cells.toArray, .bool (brP lk part n l).isSome]) ∧ Below w.heap.size w w'
theorem growsP_last {n : ByteArray} {l : List Oc} (h : (growsP n l).2.2 = true) : l ≠ [] := fun e => by subst e; simp [growsP] at h
theorem zeroMk (w : World) : (zeroValue 81).run Try.prog w = .ok (.agg #[.string .empty, .int .i64 0, .int .i64 0, .int .i64 0, .int .i64 0, .bool false, .int .i64 0, .string .empty, .string .empty]) w := by kernel_rfl
theorem itm_cells {g : Nat} {x : Itm} (h : W.heap[g]? = some (.cells x.cells.toArray 74 (0, 0))) : W.cell? ⟨g, 0, none⟩ = some (.int .i64 x.kind) ∧ W.cell? ⟨g, 1, none⟩ = some (.int .i64 x.size) ∧ W.cell? ⟨g, 2, none⟩ = some (.int .i64 x.align) ∧ W.cell? ⟨g, 3, none⟩ = some (.int .i64 x.dest) ∧ W.cell? ⟨g, 4, none⟩ = some (.int .i64 x.add) ∧ W.cell? ⟨g, 5, none⟩ = some (.int .i64 x.low) ∧ W.cell? ⟨g, 6, none⟩ = some (.int .i64 x.high) :=
  ⟨cell_of_row _ _ 0 _ _ _ h, cell_of_row _ _ 1 _ _ _ h, cell_of_row _ _ 2 _ _ _ h, cell_of_row _ _ 3 _ _ _ h, cell_of_row _ _ 4 _ _ _ h, cell_of_row _ _ 5 _ _ _ h, cell_of_row _ _ 6 _ _ _ h⟩
theorem itm_frozen {g : Nat} {x : Itm} (h : W.heap[g]? = some (.cells x.cells.toArray 74 (0, 0))) : W.frozen? ⟨g, 0, none⟩ = false ∧ W.frozen? ⟨g, 1, none⟩ = false ∧ W.frozen? ⟨g, 2, none⟩ = false ∧ W.frozen? ⟨g, 3, none⟩ = false ∧ W.frozen? ⟨g, 4, none⟩ = false ∧ W.frozen? ⟨g, 5, none⟩ = false ∧ W.frozen? ⟨g, 6, none⟩ = false :=
  ⟨frozen_of_row _ _ 0 _ _ h, frozen_of_row _ _ 1 _ _ h, frozen_of_row _ _ 2 _ _ h, frozen_of_row _ _ 3 _ _ h, frozen_of_row _ _ 4 _ _ h, frozen_of_row _ _ 5 _ _ h, frozen_of_row _ _ 6 _ _ h⟩
theorem below_itm {B g : Nat} {W2 : World} (h : Below B W W2) (hB : B ≤ g) (hz : B ≤ W2.heap.size) (v0 v1 v2 v3 v4 v5 v6 : Value) (o1 o2 : Obj) :
    Below B W (((((((((W2.setCell ⟨g, 0, none⟩ v0).setCell ⟨g, 1, none⟩ v1).setCell ⟨g, 2, none⟩ v2).setCell ⟨g, 3, none⟩ v3).setCell ⟨g, 4, none⟩ v4).setCell ⟨g, 5, none⟩ v5).setCell ⟨g, 6, none⟩ v6).alloc o1).alloc o2) := by
  refine Below.alloc (Below.alloc (Below.setCell (p := ⟨g, 6, none⟩) (Below.setCell (p := ⟨g, 5, none⟩) (Below.setCell (p := ⟨g, 4, none⟩) (Below.setCell (p := ⟨g, 3, none⟩) (Below.setCell (p := ⟨g, 2, none⟩) (Below.setCell (p := ⟨g, 1, none⟩) (Below.setCell (p := ⟨g, 0, none⟩) h hB v0) hB v1) hB v2) hB v3) hB v4) hB v5) hB v6) ?_ o1) ?_ o2 <;> simp <;> omega
set_option maxRecDepth 20000 in
set_option maxHeartbeats 4000000 in
theorem branch_any (x : LnR) (h : SlOk W Oc.cells 120 x.opers) (part : Int) (mb : Nat) (am : List (ByteArray × Mk)) (hm : MapIs Value.string Mk.val W mb am) (hmb : mb < W.heap.size) :
    Calls Try.prog 31 #[.map (some mb), .int .i64 part, .agg x.cells.toArray] W (BrT (alook am) part x.name x.opers.l W) := by
  obtain ⟨nm, ⟨p, c, l⟩⟩ := x
  unfold BrT
  obtain ⟨r, hr⟩ : ∃ r, r = brP (alook am) part nm l := ⟨_, rfl⟩
  rw [← hr]
  obtain ⟨W1, hW1⟩ : ∃ W1, W1 = (W.alloc (.cells #[.string nm, .slice p l.length c] 25)).alloc (.cells #[.int .i64 0, .int .i64 0, .int .i64 0, .int .i64 0, .int .i64 0, .int .i64 0, .int .i64 0] 74) := ⟨_, rfl⟩
  have hb1 : Below W.heap.size W W1 := by rw [hW1]; exact ((Below.refl _ _).alloc (Nat.le_refl _) _).alloc (by simp) _
  have hz1 : W1.heap.size = W.heap.size + 2 := by rw [hW1]; simp
  obtain ⟨r1, r2, r3, hg⟩ : ∃ r1 r2 r3, growsP nm l = (r1, r2, r3) := ⟨_, _, _, rfl⟩
  have HGP : Hid (growsP nm l = (r1, r2, r3)) := hg
  have HG : Hid (Calls Try.prog 11 #[.agg #[.string nm, .slice p l.length c]] W1 fun e w' => e = .returned (.tuple #[.int .i64 r1, .int .i64 r2, .bool r3]) ∧ Below W1.heap.size W1 w') := by
    have := grows_any ⟨nm, ⟨p, c, l⟩⟩ (h.below hb1)
    unfold GrowsT at this
    dsimp only at this
    rw [hg] at this
    exact this
  have HW1 := hid hW1
  have HB1 := hid hb1
  have HZ1 := hid hz1
  have HM := hid hm
  have HR := hid hr
  have HOK := hid h
  have hx1 : W1.heap[W.heap.size]? = some (.cells #[.string nm, .slice p l.length c] 25 (0, 0)) := by rw [hW1]; exact (Below.heap_alloc _ _ _ (by simp)).trans (heap_alloc_new _ _)
  have hx2 : W1.heap[W.heap.size + 1]? = some (.cells #[.int .i64 0, .int .i64 0, .int .i64 0, .int .i64 0, .int .i64 0, .int .i64 0, .int .i64 0] 74 (0, 0)) := by rw [hW1]; exact heap_newAt _ _ _ (by simp)
  have HX1 := hid hx1
  have HX2 := hid hx2
  unfold LnR.cells Sl.val
  dsimp only
  clear h hm hr hW1 hb1 hx1 hx2 hg
  by_cases h3 : r3 = true
  · subst h3
    have hl := growsP_last (n := nm) (l := l) (by rw [HGP.out])
    obtain ⟨ini, o, rfl⟩ : ∃ ini o, l = ini ++ [o] := ⟨l.dropLast, l.getLast hl, (List.dropLast_concat_getLast hl).symm⟩
    obtain ⟨b, q, rfl, hbl, -⟩ := HOK.out.row.at (by have := flat_len Oc.cells 15 (fun _ => rfl) (ini ++ [o]); rw [List.length_append] at this; simp at this ⊢; omega)
    have hll : (ini ++ [o]).length = ini.length + 1 := by simp
    have hcl := oc_cells HOK.out.row ini.length (by rw [hll]; omega)
    have hge : (ini ++ [o])[ini.length]'(by rw [hll]; omega) = o := by simp
    rw [hge] at hcl
    obtain ⟨-, -, -, -, -, -, -, -, -, -, c10, c11, c12, -, -⟩ := hcl
    have hcap := HOK.out.cap
    have hlen := HOK.out.len
    dsimp only at hcap hlen
    have HRR : Hid (r = match alook am o.v.plus with
      | none => none
      | some k => if k.equ || (k.part != part) then none else some ⟨3, 0, 0, k.piece, o.v.add, r1, r2⟩) := by
      unfold Hid; rw [HR.out]; unfold brP; rw [HGP.out]; simp
    clear hl hge HGP HR HOK
    rw [hll] at hlen hcap HX1 HG HW1 ⊢
    clear hll
    generalize ini.length = k at *
    have hw1 : IntKind.i64.wrap (((k + 1 : Nat) : Int) - 1) = (k : Nat) := by rw [IntWalk.i64_in _ (by omega)]; omega
    go_enter Try.func31, Try.ntmps31
    go_upto_region 1 with (fail)
    rw [← HW1.out]
    have k1 := cell_of_row _ _ 0 _ _ _ HX1.out
    have k2 := cell_of_row _ _ 1 _ _ _ HX1.out
    simp only [List.getElem?_toArray, List.getElem?_cons_zero, List.getElem?_cons_succ] at k1 k2
    have HC := hid (And.intro c10 (And.intro c11 c12))
    clear c10 c11 c12
    have HJ : Hid (∀ W2 : World, Below W1.heap.size W1 W2 → W1.heap.size ≤ W2.heap.size ∧ Below W.heap.size W W2 ∧ W2.cell? ⟨W.heap.size, 0, none⟩ = some (.string nm) ∧ W2.cell? ⟨W.heap.size, 1, none⟩ = some (.slice (some ⟨b, q, none⟩) (k + 1) c) ∧ W2.heap[W.heap.size + 1]? = some (.cells #[.int .i64 0, .int .i64 0, .int .i64 0, .int .i64 0, .int .i64 0, .int .i64 0, .int .i64 0] 74 (0, 0)) ∧ W2.cell? ⟨b, q + k * 15 + 10, none⟩ = some (.int .i64 o.v.add) ∧ W2.cell? ⟨b, q + k * 15 + 11, none⟩ = some (.string o.v.plus) ∧ W2.cell? ⟨b, q + k * 15 + 12, none⟩ = some (.string o.v.minus) ∧ b < W2.heap.size ∧ mb < W2.heap.size ∧ W.heap.size + 1 < W2.heap.size ∧ MapIs Value.string Mk.val W2 mb am) := fun W2 hb2 => by
      have hz2 := hb2.size
      have hlt : W.heap.size < W1.heap.size := by omega
      have hB := HB1.out.trans (hb2.mono (show W.heap.size ≤ W1.heap.size by omega))
      exact ⟨hz2, hB, (hb2.cell (p := ⟨W.heap.size, 0, none⟩) hlt).trans k1, (hb2.cell (p := ⟨W.heap.size, 1, none⟩) hlt).trans k2, (hb2.block (W.heap.size + 1) (by omega)).trans HX2.out,
        (hB.cell (p := ⟨b, q + k * 15 + 10, none⟩) hbl).trans HC.out.1, (hB.cell (p := ⟨b, q + k * 15 + 11, none⟩) hbl).trans HC.out.2.1, (hB.cell (p := ⟨b, q + k * 15 + 12, none⟩) hbl).trans HC.out.2.2, by omega, by omega, by omega, HM.out.below hB hmb⟩
    cases hlk : alook am o.v.plus with
    | none =>
      have HLK := hid hlk
      clear hlk
      go_wp2_with (first
        | (go_at_call 11; go_loud ((with_reducible refine HG.out.mono ?_); rintro e W2 ⟨rfl, hb2⟩; obtain ⟨hz2, hB2, j1, j2, jb, c10, c11, c12, hbl2, hmb2, hz3, hm2⟩ := HJ.out W2 hb2; obtain ⟨i0, i1, i2, i3, i4, i5, i6⟩ := itm_cells (x := Itm.zero) jb; obtain ⟨f0, f1, f2, f3, f4, f5, f6⟩ := itm_frozen (x := Itm.zero) jb; simp only [Itm.zero] at i0 i1 i2 i3 i4 i5 i6; have hz4 : W.heap.size < W2.heap.size := (by omega); have HM2 := hid hm2; have HB2 := hid hB2; have JB := hid jb; clear hb2 hm2 hB2 jb))
        | ((with_reducible show wpList _ _ _ (⟨some 35, _, _, _, _, _⟩ :: _) _ _); go_loud (refine wpList_maplook KStr Try.underlying95 rfl _ _ true rfl _ (zeroMk _) _ am rfl (HM2.out.below (alloc_below _ _) (by omega)) o.v.plus rfl ?_); simp only [HLK.out, if_true, Option.map_none, Option.getD_none, Option.isSome_none]))
      refine bodyPost_ret (v := .tuple #[.agg #[.int .i64 0, .int .i64 0, .int .i64 0, .int .i64 0, .int .i64 0, .int .i64 0, .int .i64 0], .bool false]) (by simp [results, Try.results31, go_sem, i0, i1, i2, i3, i4, i5, i6, hz3, hz4]) rfl ?_
      refine ⟨?_, by with_reducible exact below_itm HB2.out (Nat.le_succ _) (Nat.le_of_lt hz4) _ _ _ _ _ _ _ _ _⟩
      rw [HRR.out, HLK.out]
      rfl
    | some kk =>
      have HLK := hid hlk
      clear hlk
      obtain ⟨knm, kf, kl, kp, kpc, ke, kv1, kv2, kv3⟩ := kk
      cases ke with
      | true =>
        go_wp2_with (first
          | (go_at_call 11; go_loud ((with_reducible refine HG.out.mono ?_); rintro e W2 ⟨rfl, hb2⟩; obtain ⟨hz2, hB2, j1, j2, jb, c10, c11, c12, hbl2, hmb2, hz3, hm2⟩ := HJ.out W2 hb2; obtain ⟨i0, i1, i2, i3, i4, i5, i6⟩ := itm_cells (x := Itm.zero) jb; obtain ⟨f0, f1, f2, f3, f4, f5, f6⟩ := itm_frozen (x := Itm.zero) jb; simp only [Itm.zero] at i0 i1 i2 i3 i4 i5 i6; have hz4 : W.heap.size < W2.heap.size := (by omega); have HM2 := hid hm2; have HB2 := hid hB2; have JB := hid jb; clear hb2 hm2 hB2 jb))
          | ((with_reducible show wpList _ _ _ (⟨some 35, _, _, _, _, _⟩ :: _) _ _); go_loud (refine wpList_maplook KStr Try.underlying95 rfl _ _ true rfl _ (zeroMk _) _ am rfl (HM2.out.below (alloc_below _ _) (by omega)) o.v.plus rfl ?_); simp only [HLK.out, if_true, Option.map_some, Option.getD_some, Option.isSome_some, Mk.val, Mk.cells]))
  
        refine bodyPost_ret (v := .tuple #[.agg #[.int .i64 0, .int .i64 0, .int .i64 0, .int .i64 0, .int .i64 0, .int .i64 0, .int .i64 0], .bool false]) (by simp [results, Try.results31, go_sem, i0, i1, i2, i3, i4, i5, i6, hz3, hz4]) rfl ?_
        refine ⟨?_, by with_reducible exact below_itm HB2.out (Nat.le_succ _) (Nat.le_of_lt hz4) _ _ _ _ _ _ _ _ _⟩
        rw [HRR.out, HLK.out]
        rfl
      | false =>
        by_cases hkp : kp = part
        · subst hkp
          have hne : (kp != kp) = false := by simp
          have HNE := hid hne
          go_wp2_with (first
            | (go_at_call 11; go_loud ((with_reducible refine HG.out.mono ?_); rintro e W2 ⟨rfl, hb2⟩; obtain ⟨hz2, hB2, j1, j2, jb, c10, c11, c12, hbl2, hmb2, hz3, hm2⟩ := HJ.out W2 hb2; obtain ⟨i0, i1, i2, i3, i4, i5, i6⟩ := itm_cells (x := Itm.zero) jb; obtain ⟨f0, f1, f2, f3, f4, f5, f6⟩ := itm_frozen (x := Itm.zero) jb; simp only [Itm.zero] at i0 i1 i2 i3 i4 i5 i6; have hz4 : W.heap.size < W2.heap.size := (by omega); have HM2 := hid hm2; have HB2 := hid hB2; have JB := hid jb; clear hb2 hm2 hB2 jb))
            | ((with_reducible show wpList _ _ _ (⟨some 35, _, _, _, _, _⟩ :: _) _ _); go_loud (refine wpList_maplook KStr Try.underlying95 rfl _ _ true rfl _ (zeroMk _) _ am rfl (HM2.out.below (alloc_below _ _) (by omega)) o.v.plus rfl ?_); simp only [HLK.out, if_true, Option.map_some, Option.getD_some, Option.isSome_some, Mk.val, Mk.cells]))
    
          refine bodyPost_ret (v := .tuple #[.agg #[.int .i64 3, .int .i64 0, .int .i64 0, .int .i64 kpc, .int .i64 o.v.add, .int .i64 r1, .int .i64 r2], .bool true]) (by simp [results, Try.results31, go_sem, i0, i1, i2, i3, i4, i5, i6, hz3, hz4]) rfl ?_
          refine ⟨?_, by with_reducible exact below_itm HB2.out (Nat.le_succ _) (Nat.le_of_lt hz4) _ _ _ _ _ _ _ _ _⟩
          rw [HRR.out, HLK.out]
          simp [Itm.cells]
        · have hne : (kp != part) = true := by simp [hkp]
          have HNE := hid hne
          go_wp2_with (first
            | (go_at_call 11; go_loud ((with_reducible refine HG.out.mono ?_); rintro e W2 ⟨rfl, hb2⟩; obtain ⟨hz2, hB2, j1, j2, jb, c10, c11, c12, hbl2, hmb2, hz3, hm2⟩ := HJ.out W2 hb2; obtain ⟨i0, i1, i2, i3, i4, i5, i6⟩ := itm_cells (x := Itm.zero) jb; obtain ⟨f0, f1, f2, f3, f4, f5, f6⟩ := itm_frozen (x := Itm.zero) jb; simp only [Itm.zero] at i0 i1 i2 i3 i4 i5 i6; have hz4 : W.heap.size < W2.heap.size := (by omega); have HM2 := hid hm2; have HB2 := hid hB2; have JB := hid jb; clear hb2 hm2 hB2 jb))
            | ((with_reducible show wpList _ _ _ (⟨some 35, _, _, _, _, _⟩ :: _) _ _); go_loud (refine wpList_maplook KStr Try.underlying95 rfl _ _ true rfl _ (zeroMk _) _ am rfl (HM2.out.below (alloc_below _ _) (by omega)) o.v.plus rfl ?_); simp only [HLK.out, if_true, Option.map_some, Option.getD_some, Option.isSome_some, Mk.val, Mk.cells]))
    
          refine bodyPost_ret (v := .tuple #[.agg #[.int .i64 0, .int .i64 0, .int .i64 0, .int .i64 0, .int .i64 0, .int .i64 0, .int .i64 0], .bool false]) (by simp [results, Try.results31, go_sem, i0, i1, i2, i3, i4, i5, i6, hz3, hz4]) rfl ?_
          refine ⟨?_, by with_reducible exact below_itm HB2.out (Nat.le_succ _) (Nat.le_of_lt hz4) _ _ _ _ _ _ _ _ _⟩
          rw [HRR.out, HLK.out]
          simp [HNE.out, Itm.zero, Itm.cells]
  · have h3 : r3 = false := by simpa using h3
    subst h3
    have HRR : Hid (r = none) := by unfold Hid; rw [HR.out]; unfold brP; rw [HGP.out]; rfl
    clear HGP HR HOK
    go_enter Try.func31, Try.ntmps31
    go_upto_region 1 with (fail)
    rw [← HW1.out]
    have k1 := cell_of_row _ _ 0 _ _ _ HX1.out
    have k2 := cell_of_row _ _ 1 _ _ _ HX1.out
    simp only [List.getElem?_toArray, List.getElem?_cons_zero, List.getElem?_cons_succ] at k1 k2
    have HJ : Hid (∀ W2 : World, Below W1.heap.size W1 W2 → Below W.heap.size W W2 ∧ W2.heap[W.heap.size + 1]? = some (.cells #[.int .i64 0, .int .i64 0, .int .i64 0, .int .i64 0, .int .i64 0, .int .i64 0, .int .i64 0] 74 (0, 0))) := fun W2 hb2 =>
      ⟨HB1.out.trans (hb2.mono (show W.heap.size ≤ W1.heap.size by omega)), (hb2.block (W.heap.size + 1) (by omega)).trans HX2.out⟩
    go_wp2_with (go_at_call 11; (with_reducible refine HG.out.mono ?_); rintro e W2 ⟨rfl, hb2⟩; obtain ⟨hB2, jb⟩ := HJ.out W2 hb2; obtain ⟨i0, i1, i2, i3, i4, i5, i6⟩ := itm_cells (x := Itm.zero) jb; obtain ⟨f0, f1, f2, f3, f4, f5, f6⟩ := itm_frozen (x := Itm.zero) jb; simp only [Itm.zero] at i0 i1 i2 i3 i4 i5 i6; have HB2 := hid hB2; clear hb2 hB2 jb)
    refine bodyPost_ret (v := .tuple #[.agg #[.int .i64 0, .int .i64 0, .int .i64 0, .int .i64 0, .int .i64 0, .int .i64 0, .int .i64 0], .bool false]) (by simp [results, Try.results31, go_sem, i0, i1, i2, i3, i4, i5, i6]) rfl ?_
    refine ⟨?_, ?_⟩
    · rw [HRR.out]; rfl
    · trace_state
      exact Below.setCell (p := ⟨W.heap.size + 1, 6, none⟩) (Below.setCell (p := ⟨W.heap.size + 1, 5, none⟩) (Below.setCell (p := ⟨W.heap.size + 1, 4, none⟩) (Below.setCell (p := ⟨W.heap.size + 1, 3, none⟩) (Below.setCell (p := ⟨W.heap.size + 1, 2, none⟩) (Below.setCell (p := ⟨W.heap.size + 1, 1, none⟩) (Below.setCell (p := ⟨W.heap.size + 1, 0, none⟩) HB2.out (Nat.le_succ _) _) (Nat.le_succ _) _) (Nat.le_succ _) _) (Nat.le_succ _) _) (Nat.le_succ _) _) (Nat.le_succ _) _) (Nat.le_succ _) _
end Go.Proofs.Ythlingholhjcnaa
namespace Go.Proofs.Ythlingholhjcnaa
open Go.RowKit
variable {P : Program} {w : World} {t e : TypeId} {size bytes : Nat} {z : Value} {ops : Array Oper} {rest : List Oper} {o : Oper} {a : Act} {Q : Exit → Act → World → Prop}

/-- 'append(v, x...)', the one operation: v the call's own, x any row. -/
theorem operIn_app {K : Act → World → Prop} {F : Fence} {fn : Nat} (E : Elem P t e size bytes z) (s x : Operand)
    (ho : o.op = .call { callee := .builtin .append, args := #[s, x], argTypes := #[t, t] })
    (base : Nat) (v : Value) (n : Nat) (xs : List Value) (hs : a.eval s = v) (hown : w.ownsRow base e size v n xs)
    (p : Option Addr) (m c : Nat) (news : List Value) (hx : a.eval x = .slice p m c) (hl : news.length = m * size) (hnil : p = none → c = 0) (hrow : Row w p news) (h1 : ∀ u ∈ news, u.oneCell' = true)
    (h63 : n + m ≤ maxLen) (hbytes : (n + m) * bytes ≤ 140737488355328) (hbase : base ≤ w.heap.size)
    (h : ∀ v' w', w'.ownsRow base e size v' (n + m) (xs ++ news) → w.grownBy w' v.ownBlock → Stayed w v v' → K (a.put o.dst v') w') : Oper.wpIn F fn P o a w K Q := by
  obtain ⟨i, hi, hz, hsz, hby⟩ := E.info
  cases p with
  | none =>
    have hc : c = 0 := hnil rfl
    subst hc
    have hn : news = [] := by
      apply Classical.byContradiction
      intro hne
      obtain ⟨b, o, e1, _⟩ := hrow hne
      cases e1
    subst hn
    have hm : m = 0 := by
      have := E.pos
      have hl' : 0 = m * size := hl
      rcases Nat.mul_eq_zero.1 hl'.symm with h0 | h0
      · exact h0
      · omega
    subst hm
    have hr := run_append_owned_none (P := P) (w := w) base t o.type e i size E.desc hi v n xs hown
    unfold Oper.wpIn
    refine ⟨?_, ?_⟩
    · simp [Oper.about, ho, resolve, Target.leads, Sem.run_pure]
    · rw [Oper.semAt_plain F _ _ (by rw [ho]; intro c hc'; cases hc')]
      simp [execOp, ho, resolve, invoke, builtin, hs, hx, hr, Result.andThen]
      exact (h v w (by simpa using hown) (World.grownBy.refl _ _) (fun g hg => .inl hg))
  | some ad =>
    have hnews : ∀ j u, news[j]? = some u → w.cell? (ad.add j) = some u := by
      intro j u hj
      have hjl : j < news.length := (List.getElem?_eq_some_iff.1 hj).1
      obtain ⟨b, o, e1, hc⟩ := hrow (by intro e1; rw [e1] at hjl; simp at hjl)
      cases e1
      rw [addr_add, hc j hjl]
      rw [List.getElem?_eq_getElem hjl] at hj
      exact hj
    obtain ⟨v', w', hr, h2, h3, _⟩ := run_append_own (P := P) w base t o.type e i z size bytes E.desc hi hz hsz hby E.cells E.pos v n xs hown ad m c news hl hnews h1 h63 hbytes hbase
    have h4 := app_stayed E o.type base v n xs hown ad m c news hl hnews h1 h63 hbytes hr
    unfold Oper.wpIn
    refine ⟨?_, ?_⟩
    · simp [Oper.about, ho, resolve, Target.leads, Sem.run_pure]
    · rw [Oper.semAt_plain F _ _ (by rw [ho]; intro c hc'; cases hc')]
      simp [execOp, ho, resolve, invoke, builtin, hs, hx, hr, Result.andThen]
      exact (h v' w' h2 h3 h4)

/-- The same for the walk. -/
theorem wpListIn_app {F : Fence} {fn : Nat} (E : Elem P t e size bytes z) (hgd : o.guard = none) (s x : Operand)
    (ho : o.op = .call { callee := .builtin .append, args := #[s, x], argTypes := #[t, t] })
    (base : Nat) (v : Value) (n : Nat) (xs : List Value) (hs : a.eval s = v) (hown : w.ownsRow base e size v n xs)
    (p : Option Addr) (m c : Nat) (news : List Value) (hx : a.eval x = .slice p m c) (hl : news.length = m * size) (hnil : p = none → c = 0) (hrow : Row w p news) (h1 : ∀ u ∈ news, u.oneCell' = true)
    (h63 : n + m ≤ maxLen) (hbytes : (n + m) * bytes ≤ 140737488355328) (hbase : base ≤ w.heap.size)
    (h : ∀ v' w', w'.ownsRow base e size v' (n + m) (xs ++ news) → w.grownBy w' v.ownBlock → Stayed w v v' → wpListIn F fn P ops Q rest (a.put o.dst v') w') : wpListIn F fn P ops Q (o :: rest) a w :=
  wpListIn_plain hgd fun K hK => operIn_app E s x ho base v n xs hs hown p m c news hx hl hnil hrow h1 h63 hbytes hbase (fun v' w' a b c => hK _ _ (h v' w' a b c))

/-- 'make([]T, n)' at the operation, within a fence. -/
theorem wpListIn_mkfull {F : Fence} {fn : Nat} (E : Elem P t e size bytes z) (hgd : o.guard = none) (l c : Operand) (ho : o.op = .makeSlice t l c) (base : Nat) (kl kc : IntKind) (L C : Int) (n : Nat) (hl : a.eval l = .int kl L) (hc : a.eval c = .int kc C) (hL : L = (n : Int)) (hC : C = (n : Int))
    (hb : bytes * n ≤ 281474976710656) (hm : n ≤ maxLen) (hbase : base ≤ w.heap.size)
    (h : ∀ w', w'.ownsRow base e size (.slice (some ⟨w.heap.size, 0, none⟩) n n) n (madeCells z.cells (n * size)).toList → w.grownBy w' none → wpListIn F fn P ops Q rest (a.put o.dst (.slice (some ⟨w.heap.size, 0, none⟩) n n)) w') : wpListIn F fn P ops Q (o :: rest) a w := by
  obtain ⟨i, hi, hz, hsz, hby⟩ := E.info
  refine wpListIn_plain hgd fun K hK' => ?_
  obtain ⟨w', hrun, r1, r2⟩ := run_make_full (P := P) w base t e i z size E.desc hi hz hsz kl kc n (by rw [hby]; exact hb) hm hbase
  subst hL
  subst hC
  unfold Oper.wpIn
  refine ⟨?_, ?_⟩
  · simp [Oper.about, ho]
  · rw [Oper.semAt_plain F _ _ (by rw [ho]; intro c hc'; cases hc')]
    simp [execOp, ho, hl, hc, hrun, Result.andThen]
    exact hK' _ _ (h w' r1 r2)

/-- A nil slice that is owned has no room. -/
theorem own_nilcap {w : World} {base : Nat} {e : TypeId} {size : Nat} {p : Option Addr} {n m c : Nat} {xs : List Value} (h : w.ownsRow base e size (.slice p m c) n xs) : p = none → c = 0 := by
  intro hp
  subst hp
  rcases h.2 with ⟨hv, _⟩ | ⟨g, cap, cur, hv, _⟩
  · cases hv; rfl
  · cases hv
end Go.Proofs.Ythlingholhjcnaa
namespace Go.Proofs.Ythlingholhjcnaa
open Go.RowKit
attribute [local go_sem] Oper.semAt_some
theorem wide_fn (f : FuncId) : Fence.wide.fn f = True := rfl
theorem wide_depth : Fence.wide.depth = none := rfl
attribute [local go_sem] wide_fn wide_depth
variable {W W' w w' : World}
/-- Marks from behind, with their places. -/
def revE (l : List Mk) : Nat → List (Nat × Mk)
  | 0 => []
  | k + 1 => (match l[k]? with | some x => [(k, x)] | none => []) ++ revE l k
theorem revE_succ (l : List Mk) (k : Nat) (h : k < l.length) : revE l (k + 1) = (k, l[k]) :: revE l k := by
  show (match l[k]? with | some x => [(k, x)] | none => []) ++ revE l k = _
  rw [List.getElem?_eq_getElem h]; rfl
theorem revE_len (l : List Mk) : ∀ k, k ≤ l.length → (revE l k).length = k
  | 0, _ => rfl
  | k + 1, h => by rw [revE_succ l k (by omega), List.length_cons, revE_len l k (by omega)]
def encM (x : Nat × Mk) : Array Value := #[.int .i64 x.1, x.2.val]
theorem Row.own_keeps {W W' : World} {p : Option Addr} {cs : List Value} {n₀ : Nat} (h : Row W p cs) (hb : Below n₀ W W') (hp : cs ≠ [] → ∀ a, p = some a → a.block < n₀) : Row W' p cs := by
  intro hcs
  obtain ⟨b, f, rfl, hc⟩ := h hcs
  exact ⟨b, f, rfl, fun i hi => (hb.cell (p := ⟨b, f + i, none⟩) (hp hcs ⟨b, f, none⟩ rfl)).trans (hc i hi)⟩
set_option maxRecDepth 20000 in
set_option maxHeartbeats 4000000 in
theorem back_seq (n : Nat) (hn : 1 ≤ n) (l : List Mk) (hm : l.length ≤ 1000000000000) (n₀ : Nat) (S : TypeId → Bool) (hS : S 29 = true) (b : Nat) (q : Option Addr) (c : Nat) (w : World) (hbw : w.heap[b]? = some (.cells #[.slice q l.length c] 29 (0, 0))) (hn0 : n₀ ≤ w.heap.size) (hrow : Row w q (l.flatMap Mk.cells)) (hq : l.flatMap Mk.cells ≠ [] → ∀ a, q = some a → a.block < n₀) :
    SeqStopsK Fence.wide n Try.prog 49 #[.pointer (some ⟨b, 0, none⟩)] encM (KpT n₀ S) (fun ys => ys = revE l l.length) (fun pre => ∃ suf, pre ++ suf = revE l l.length) l.length w := by
  intro ll J Jx W hW hJ hJx hY h0
  have hblt : b < w.heap.size := (Array.getElem?_eq_some_iff.1 hbw).1
  have hbW := (hW.block b hblt).trans hbw
  have hr0 : Row W q (l.flatMap Mk.cells) := hrow.below hW
  show CallsIn Fence.wide n Try.prog 49 #[.func (.yield ll) #[] #[], .pointer (some ⟨b, 0, none⟩)] W _
  have hcb0 := cell_of_row W b 0 _ _ _ hbW
  simp at hcb0
  obtain ⟨N, hN⟩ : ∃ N, N = l.length := ⟨_, rfl⟩
  have HN := hid hN
  rw [← hN] at hm hcb0 ⊢
  have hw1 : IntKind.i64.wrap ((N : Int) - 1) = (N : Int) - 1 := IntWalk.i64_in _ (by omega)
  have HBW := hid hbW
  have HY := hid hY
  have HR0 := hid hr0
  clear hN hbW hY hr0 hrow
  refine callsIn_of_wp Try.func49 rfl (show Fence.wide.fn 49 from trivial) ?_ rfl
  simp only [Try.ntmps49, List.size_toArray, List.length_cons, List.length_nil, Nat.reduceAdd, Nat.reduceSub, Array.replicate_succ, Array.replicate_zero, List.push_toArray, List.append_toArray, List.nil_append, List.cons_append]
  gi_wp2
  gi_loopw [3] (fun i wr => ∃ (k : Nat) (pre : List (Nat × Mk)), k ≤ N ∧ i = .int .i64 ((k : Int) - 1) ∧ J pre wr ∧ pre ++ revE l k = revE l N ∧ Below n₀ W wr ∧ wr.heap[b]? = some (.cells #[.slice q N c] 29 (0, 0))) (fun i _ => (intOf i + 1).toNat)
  case atStart => exact ⟨N, [], Nat.le_refl _, rfl, h0, rfl, Below.refl _ _, by rw [HN.out]; exact HBW.out⟩
  case round =>
    obtain ⟨k, pre, hk, rfl, hJs, hP, hnx, hbx⟩ := hrel
    have HP := hid hP
    have HBX := hid hbx
    have hcb := cell_of_row _ b 0 _ _ _ hbx
    simp at hcb
    clear hP hbx hcb0
    cases k with
    | zero =>
      have HA : Hid (pre = revE l N) := by have := HP.out; rw [revE, List.append_nil] at this; exact this
      gi_wp2
      go_end0
      exact ⟨⟨_, rfl⟩, .inl ⟨_, HA.out, hJs⟩⟩
    | succ k =>
      have hkl : k < l.length := by rw [← HN.out]; omega
      have hrk := HR0.out.own_keeps hnx hq
      obtain ⟨rb, ro, rfl, -, -⟩ := hrk.at (by have := flat_len Mk.cells 9 (fun _ => rfl) l; omega)
      obtain ⟨c0, c1, c2, c3, c4, c5, c6, c7, c8⟩ := mk_cells hrk k hkl
      have HS : Hid ((pre ++ [(k, l[k])]) ++ revE l k = revE l N) := by
        have := HP.out
        rw [revE_succ l k hkl] at this
        rw [List.append_assoc]; exact this
      have hlen : pre.length < N := by
        have := congrArg List.length HP.out
        rw [List.length_append, revE_len l _ (by omega), revE_len l _ (by rw [← HN.out]; exact Nat.le_refl _)] at this
        omega
      obtain ⟨fn, tmps, assign, body, hy, hR⟩ := HY.out pre (k, l[k]) _ hJs (by rw [← HN.out]; exact hlen)
      simp only [encM, Mk.val, Mk.cells] at hy
      generalize l[k] = x at *
      have hsub : (((k + 1 : Nat) : Int) - 1) = (k : Int) := by omega
      rw [hsub]
      have hkN : k < N := by omega
      have hkI : (k : Int) < N := by omega
      have hwk : IntKind.i64.wrap ((k : Int) - 1) = (k : Int) - 1 := IntWalk.i64_in _ (by omega)
      clear hrk HP hk hsub
      gi_wp2
      refine hR.mono ?_
      rintro e W3 (⟨rfl, hJ3, hk3⟩ | ⟨rfl, hJx3⟩)
      · have hb3 := hk3.2.2 _ _ _ _ hS HBX.out
        gi_wp2
        go_roundw
        case rel =>
          exact ⟨k, pre ++ [(k, x)], by omega, rfl, hJ3, HS.out, hnx.trans hk3.1, hb3⟩
        case measure => simp [intOf]; try omega
      · gi_wp2
        refine bodyPost_ret (results_none rfl _ _ _) rfl ?_
        exact ⟨⟨_, rfl⟩, .inr ⟨_, ⟨revE l k, HS.out⟩, hJx3⟩⟩
end Go.Proofs.Ythlingholhjcnaa
namespace Go.Proofs.Ythlingholhjcnaa
open Go.RowKit
attribute [local go_sem] Oper.semAt_some
attribute [local go_sem] wide_fn wide_depth
variable {W W' w w' : World}
theorem back_any (q : Option Addr) (m c : Nat) (w : World) :
    Calls Try.prog 30 #[.slice q m c] w fun e w' => e = .returned (.func (.func 49) #[] #[.pointer (some ⟨w.heap.size, 0, none⟩)]) ∧ w' = w.alloc (.cells #[.slice q m c] 29) := by
  go_enter Try.func30, Try.ntmps30
  go_wp2
  go_ret
  exact ⟨rfl, rfl⟩
def firstM (l : List Mk) (x : ByteArray) : Option Mk := l.find? (fun k => decide (x = k.name))
def setM (m : List (ByteArray × Mk)) (x : Nat × Mk) : List (ByteArray × Mk) := aset m x.2.name x.2
theorem alook_aset {κ β : Type} [DecidableEq κ] (m : List (κ × β)) (x : κ) (u : β) (y : κ) : alook (aset m x u) y = if y = x then some u else alook m y := by
  induction m with
  | nil => simp [aset, alook]
  | cons a l ih =>
    obtain ⟨k, v⟩ := a
    by_cases h : x = k
    · subst h
      by_cases hy : y = x <;> simp [aset, alook, hy]
    · by_cases hy : y = k
      · subst hy
        have : ¬ y = x := fun e => h e.symm
        simp [aset, alook, h, this]
      · simp [aset, alook, h, hy, ih]
theorem alook_rev (l : List Mk) (x : ByteArray) : ∀ (k : Nat) (m : List (ByteArray × Mk)), k ≤ l.length → alook ((revE l k).foldl setM m) x = (firstM (l.take k) x).or (alook m x)
  | 0, m, _ => by simp [revE, firstM]
  | k + 1, m, h => by
    rw [revE_succ l k (by omega), List.foldl_cons, alook_rev l x k _ (by omega)]
    unfold setM
    rw [alook_aset]
    have e : l.take (k + 1) = l.take k ++ [l[k]] := by rw [List.take_add_one, List.getElem?_eq_getElem (by omega)]; rfl
    rw [e]
    unfold firstM
    rw [List.find?_append]
    cases h1 : (l.take k).find? (fun k => decide (x = k.name)) with
    | some y => simp
    | none =>
      by_cases hx : x = l[k].name
      · simp [hx]
      · simp [hx]
def itemP (lk : ByteArray → Option Mk) (part : Int) (x : PcR) : Itm :=
  if x.kind = 2 then (brP lk part x.l.name x.l.opers.l).getD ⟨1, 4, 0, 0, 0, 0, 0⟩
  else if x.kind = 1 then ⟨1, 4, 0, 0, 0, 0, 0⟩
  else if x.kind = 3 then ⟨1, x.size, 0, 0, 0, 0, 0⟩
  else if x.kind = 4 then ⟨1, x.b.l.length, 0, 0, 0, 0, 0⟩
  else if x.kind = 5 then ⟨2, 0, x.align, 0, 0, 0, 0⟩ else ⟨1, 0, 0, 0, 0, 0, 0⟩
theorem EItem : Elem Try.prog 51 74 7 56 (.agg #[.int .i64 0, .int .i64 0, .int .i64 0, .int .i64 0, .int .i64 0, .int .i64 0, .int .i64 0]) := Elem.mk' Try.underlying51 (by kernel_rfl) rfl (by decide)
theorem itm_ones (x : Itm) : ∀ u ∈ x.cells, u.oneCell' = true := fun u hu => by
  simp [Itm.cells] at hu
  rcases hu with rfl | rfl | rfl | rfl | rfl | rfl | rfl <;> rfl
def ItemsT (X : FV) (part : Nat) (y : PtR) (w : World) (e : Ending) (w' : World) : Prop :=
  ∃ p c, e = .returned (.slice p y.pieces.l.length c) ∧ Row w' p ((y.pieces.l.map (itemP (firstM X.ms) part)).flatMap Itm.cells) ∧ Below w.heap.size w w'
/-- Between two rounds over the marks. -/
structure ItI (W : World) (X : FV) (m : List (ByteArray × Mk)) (W' : World) : Prop where
  unit : W'.heap[W.heap.size]? = some (.cells #[X.pv, X.mv, X.gv] 32 (0, 0))
  map : MapIs Value.string Mk.val W' (W.heap.size + 1) m
  box : W'.heap[W.heap.size + 1 + 1]? = some (.cells #[.map (some (W.heap.size + 1))] 95 (0, 0))
  below : Below W.heap.size W W'
  size : W.heap.size + 4 ≤ W'.heap.size
theorem at_act {g : Operand} {ps : Array Tmp} {assign body : Code} {F : Fence} {n : Nat} {P : Program} {Q : Exit → Act → World → Prop} {a : Act} {w : World} (h : ∀ a0, a0 = a → (Code.rangeFunc g ps assign body).wpIn F n P Q a0 w) : (Code.rangeFunc g ps assign body).wpIn F n P Q a w := h a rfl
theorem heap_keptP {W W' : World} {row : Option Nat} {k : Nat} {o : Obj} (hg : W.grownBy W' row) (hr : some k ≠ row) (h : W.heap[k]? = some o) : W'.heap[k]? = some o :=
  (hg.block k (Array.getElem?_eq_some_iff.1 h).1 hr).trans h
theorem put7 {g T : Nat} {a0 a1 a2 a3 a4 a5 a6 : Value} (h : W.heap[g]? = some (.cells #[a0, a1, a2, a3, a4, a5, a6] T (0, 0))) (v0 v1 v2 v3 v4 v5 v6 : Value) :
    (((((((W.setCell ⟨g, 0, none⟩ v0).setCell ⟨g, 1, none⟩ v1).setCell ⟨g, 2, none⟩ v2).setCell ⟨g, 3, none⟩ v3).setCell ⟨g, 4, none⟩ v4).setCell ⟨g, 5, none⟩ v5).setCell ⟨g, 6, none⟩ v6).heap[g]? = some (.cells #[v0, v1, v2, v3, v4, v5, v6] T (0, 0)) := by
  have h0 : (W.setCell ⟨g, 0, none⟩ v0).heap[g]? = some (.cells #[v0, a1, a2, a3, a4, a5, a6] T (0, 0)) := heap_setCell_same _ _ 0 _ _ _ h
  generalize W.setCell ⟨g, 0, none⟩ v0 = W0 at *
  have h1 : (W0.setCell ⟨g, 1, none⟩ v1).heap[g]? = some (.cells #[v0, v1, a2, a3, a4, a5, a6] T (0, 0)) := heap_setCell_same _ _ 1 _ _ _ h0
  generalize W0.setCell ⟨g, 1, none⟩ v1 = W1 at *
  have h2 : (W1.setCell ⟨g, 2, none⟩ v2).heap[g]? = some (.cells #[v0, v1, v2, a3, a4, a5, a6] T (0, 0)) := heap_setCell_same _ _ 2 _ _ _ h1
  generalize W1.setCell ⟨g, 2, none⟩ v2 = W2 at *
  have h3 : (W2.setCell ⟨g, 3, none⟩ v3).heap[g]? = some (.cells #[v0, v1, v2, v3, a4, a5, a6] T (0, 0)) := heap_setCell_same _ _ 3 _ _ _ h2
  generalize W2.setCell ⟨g, 3, none⟩ v3 = W3 at *
  have h4 : (W3.setCell ⟨g, 4, none⟩ v4).heap[g]? = some (.cells #[v0, v1, v2, v3, v4, a5, a6] T (0, 0)) := heap_setCell_same _ _ 4 _ _ _ h3
  generalize W3.setCell ⟨g, 4, none⟩ v4 = W4 at *
  have h5 : (W4.setCell ⟨g, 5, none⟩ v5).heap[g]? = some (.cells #[v0, v1, v2, v3, v4, v5, a6] T (0, 0)) := heap_setCell_same _ _ 5 _ _ _ h4
  generalize W4.setCell ⟨g, 5, none⟩ v5 = W5 at *
  exact heap_setCell_same _ _ 6 _ _ _ h5
theorem below_put {B g : Nat} {W2 : World} (h : Below B W W2) (hB : B ≤ g) (v0 v1 v2 v3 v4 v5 v6 : Value) :
    Below B W (((((((W2.setCell ⟨g, 0, none⟩ v0).setCell ⟨g, 1, none⟩ v1).setCell ⟨g, 2, none⟩ v2).setCell ⟨g, 3, none⟩ v3).setCell ⟨g, 4, none⟩ v4).setCell ⟨g, 5, none⟩ v5).setCell ⟨g, 6, none⟩ v6) :=
  Below.setCell (p := ⟨g, 6, none⟩) (Below.setCell (p := ⟨g, 5, none⟩) (Below.setCell (p := ⟨g, 4, none⟩) (Below.setCell (p := ⟨g, 3, none⟩) (Below.setCell (p := ⟨g, 2, none⟩) (Below.setCell (p := ⟨g, 1, none⟩) (Below.setCell (p := ⟨g, 0, none⟩) h hB v0) hB v1) hB v2) hB v3) hB v4) hB v5) hB v6
theorem ItI.kept {X : FV} {m : List (ByteArray × Mk)} {A B : World} {C : Nat} (h : ItI W X m A) (hC : W.heap.size + 1 + 1 < C) {row : Option Nat} (hg : A.grownBy B row) (hr : ∀ r, row = some r → C ≤ r) : ItI W X m B := by
  have hz := (Array.getElem?_eq_some_iff.1 h.box).1
  exact ⟨(hg.block _ (by omega) (fun e => by have := hr _ e.symm; omega)).trans h.unit, h.map.kept hg (fun e => by have := hr _ e.symm; omega), (hg.block _ (by omega) (fun e => by have := hr _ e.symm; omega)).trans h.box, h.below.grown hg h.below.size (fun k e => by have := hr k e; omega), Nat.le_trans h.size hg.size⟩
set_option maxRecDepth 20000 in
set_option maxHeartbeats 4000000 in
theorem items_any {X : FV} (h : UnRd W X) (part : Nat) (y : PtR) (hy : X.ps[part]? = some y) (hn : y.pieces.l.length ≤ 4000000) :
    Calls Try.prog 17 #[.agg #[X.pv, X.mv, X.gv], .int .i64 (part : Nat)] W (ItemsT X part y W) := by
  have H := hid h
  have HY := hid hy
  obtain ⟨pp, pc, hpv, hpr⟩ := h.pv
  obtain ⟨mp, mc, hmv, hmr⟩ := h.mv
  obtain ⟨gp, gc, hgv, hgr⟩ := h.gv
  have hpl : part < X.ps.length := (List.getElem?_eq_some_iff.1 hy).1
  have hpI : (part : Int) < X.ps.length := by omega
  have hps := h.sm.ps
  have hms := h.sm.ms
  have HV := hid (And.intro hpv (And.intro hmv hgv))
  have HR := hid (And.intro hpr hmr)
  obtain ⟨NP, hNP⟩ : ∃ NP, NP = X.ps.length := ⟨_, rfl⟩
  obtain ⟨NM, hNM⟩ : ∃ NM, NM = X.ms.length := ⟨_, rfl⟩
  have HN := hid (And.intro hNP hNM)
  rw [hpv, hmv, hgv, ← hNP, ← hNM]
  rw [← hNP] at hpl hpI hps
  rw [← hNM] at hms
  generalize X.gs.length = NG at *
  clear h hy hpv hmv hgv hpr hmr hgr hNP hNM
  refine callsIn_wide.1 (?_ : CallsIn Fence.wide 8 Try.prog 17 #[.agg #[.slice pp NP pc, .slice mp NM mc, .slice gp NG gc], .int .i64 (part : Nat)] W _)
  refine callsIn_of_wp_marks Try.func17 rfl (show Fence.wide.fn 17 from trivial) ?_ rfl
  simp only [Try.ntmps17, List.size_toArray, List.length_cons, List.length_nil, Nat.reduceAdd, Nat.reduceSub, Array.replicate_succ, Array.replicate_zero, List.push_toArray, List.append_toArray, List.nil_append, List.cons_append]
  refine wpIn_wide.2 ?_
  have hmm := @run_makeMap Try.prog
  go_wp2_with (go_at_call 30; (with_reducible refine (back_any _ _ _ _).mono ?_); rintro e w2 ⟨rfl, rfl⟩)
  clear hmm
  obtain ⟨W4, hW4⟩ : ∃ W4, W4 = ((((W.alloc (.cells #[.slice pp NP pc, .slice mp NM mc, .slice gp NG gc] 32)).alloc (.map #[] 0)).alloc (.cells #[.map (some (W.heap.size + 1))] 95)).alloc (.cells #[.slice mp NM mc] 29)) := ⟨_, rfl⟩
  rw [← hW4]
  have hz4 : W4.heap.size = W.heap.size + 4 := by rw [hW4]; simp
  have hI4 : ItI W X [] W4 := by
    rw [hW4]
    refine ⟨?_, ?_, ?_, ?_, by simp⟩
    · rw [HV.out.1, HV.out.2.1, HV.out.2.2, ← HN.out.1, ← HN.out.2]
      exact (Below.heap_alloc _ _ _ (by simp <;> omega)).trans ((Below.heap_alloc _ _ _ (by simp <;> omega)).trans ((Below.heap_alloc _ _ _ (by simp)).trans (heap_alloc_new _ _)))
    · have := (((MapIs.made Value.string Mk.val (W.alloc (.cells #[.slice pp NP pc, .slice mp NM mc, .slice gp NG gc] 32))).alloc (.cells #[.map (some (W.heap.size + 1))] 95)).alloc (.cells #[.slice mp NM mc] 29))
      rw [World.size_alloc] at this
      exact this
    · exact (Below.heap_alloc _ _ _ (by simp)).trans (heap_newAt _ _ _ (by simp))
    · exact ((((Below.refl _ _).alloc (Nat.le_refl _) _).alloc (by simp) _).alloc (by simp <;> omega) _).alloc (by simp <;> omega) _
  have hb4 : W4.heap[W.heap.size + 1 + 1 + 1]? = some (.cells #[.slice mp NM mc] 29 (0, 0)) := by rw [hW4]; exact heap_newAt _ _ _ (by simp)
  have HI4 := hid hI4
  have hseq : Hid (SeqStopsK Fence.wide 7 Try.prog 49 #[.pointer (some ⟨W.heap.size + 1 + 1 + 1, 0, none⟩)] encM (KpT W.heap.size (fun T => T == 29)) (fun ys => ys = revE X.ms X.ms.length) (fun pre => ∃ suf, pre ++ suf = revE X.ms X.ms.length) X.ms.length W4) :=
    back_seq 7 (by omega) X.ms (by rw [← HN.out.2]; exact hms) W.heap.size _ (by decide) _ mp mc W4 (by rw [← HN.out.2]; exact hb4) (by omega) (HR.out.2.below hI4.below) (by
      intro hne a ha
      obtain ⟨b, o, he, hbl, -⟩ := HR.out.2.at (List.length_pos_iff.2 hne)
      rw [ha] at he; cases he; exact hbl)
  clear hW4 hI4 hb4
  refine (wpIn_wide (n := 8)).1 ?_
  refine at_act fun a0 ha0 => ?_
  refine wpIn_rangeFunc_ownH rfl (by omega) (gf := 49) (lb := #[.pointer (some ⟨W.heap.size + 1 + 1 + 1, 0, none⟩)]) (by rw [ha0]; rfl) trivial (enters_of Try.func49 (by kernel_rfl) rfl) hseq.out
    KpT.trans (fun W' l o o' hl h1 h2 h3 => KpT.putObj (by omega) W' l o o' hl h1 h2 h3) (Below.refl _ _) (fun _ => rfl)
    (fun pre W' => ItI W X (pre.foldl setM []) W') (fun c pre W' => False)
    (fun s A B row hs hg hr => hs.kept (C := W4.heap.size) (by omega) hg (fun r e => (hr r e).1))
    (fun c s A B row hs hg hr => hs)
    HI4.out
    (fun x a' W' => ∃ g, a' = { tmps := ((#[27, 28].zip (encM x)).foldl (fun t (p, v) => t.setIfInBounds p v) a0.tmps).setIfInBounds 7 (.pointer (some ⟨g, 0, none⟩)), defers := [] } ∧ W4.heap.size ≤ g ∧ W'.heap[g]? = some (.cells x.2.cells.toArray 81 (0, 0)))
    ?hAx ?assign ?body ?done ?stop
  case assign =>
    intro l pre x W' K hI hK
    subst ha0
    simp only [encM, Mk.val, Mk.cells]
    gi_wp2
    have hlt : W4.heap.size ≤ W'.heap.size := by rw [hz4]; exact hI.size
    refine hK _ _ ?_ ?_ ?_ ⟨W'.heap.size, by simp [encM, Mk.val, Mk.cells], by omega, ?_⟩
    · exact (KeepsOthers.alloc _ _).from _
    · exact KpT.alloc _ (by omega) _
    · exact hI.kept (C := W4.heap.size) (by omega) (World.grownBy_alloc _ _ none) (by simp)
    · exact heap_alloc_new _ _
  case hAx =>
    rintro x a' s A B row ⟨g, h1, h2, h3⟩ hg hr
    refine ⟨g, h1, h2, heap_keptP hg (fun e => ?_) h3⟩
    obtain ⟨-, o, ho, hc⟩ := hr _ e.symm
    rw [h3] at ho; cases ho; cases hc
  case body =>
    rintro l pre x a' W' hl hr hI ⟨g, rfl, hgz, hgb⟩ hlen
    subst ha0
    simp only [encM, Mk.val, Mk.cells]
    have c5 := cell_of_row _ _ 0 _ _ _ hI.box
    simp only [List.getElem?_toArray, List.getElem?_cons_zero, List.getElem?_cons_succ] at c5
    have d0 := cell_of_row _ _ 0 _ _ _ hgb
    have d1 := cell_of_row _ _ 1 _ _ _ hgb
    have d2 := cell_of_row _ _ 2 _ _ _ hgb
    have d3 := cell_of_row _ _ 3 _ _ _ hgb
    have d4 := cell_of_row _ _ 4 _ _ _ hgb
    have d5 := cell_of_row _ _ 5 _ _ _ hgb
    have d6 := cell_of_row _ _ 6 _ _ _ hgb
    have d7 := cell_of_row _ _ 7 _ _ _ hgb
    have d8 := cell_of_row _ _ 8 _ _ _ hgb
    simp only [Mk.cells, List.getElem?_toArray, List.getElem?_cons_zero, List.getElem?_cons_succ] at d0 d1 d2 d3 d4 d5 d6 d7 d8
    have HI := hid hI
    have hmi := hI.map
    clear hI hr
    gi_wp2_with ((with_reducible show wpListIn _ _ _ _ _ (⟨none, .mapUpdate _ _ _ _, _, _, _, _⟩ :: _) _ _); go_loud (refine wpListIn_mapset KStr Try.underlying95 rfl _ _ _ (.inl rfl) _ _ rfl hmi x.2.name rfl x.2 rfl ?_); intro w2 hm2 hg2)
    have h2 := HI.out
    have hz2 := h2.size
    obtain ⟨es, clock, hmb, -⟩ := id h2.map
    refine ⟨KeepsFrom.of_grownBy hg2 (fun j e => by cases e; omega), KpT.grown hg2 (by omega) (fun k e => ?_), heap_keptP hg2 (by simp) h2.unit, ?_, heap_keptP hg2 (by simp) h2.box, h2.below.grown hg2 h2.below.size (fun k e => by cases e; omega), Nat.le_trans hz2 hg2.size⟩
    · cases e
      exact ⟨by omega, fun cs T fz _ h => by rw [hmb] at h; cases h⟩
    · rw [List.foldl_append]; exact hm2
  case done =>
    rintro D xs W' hD rfl hI hDd
    subst ha0
    have hlk : ∀ x, alook ((revE X.ms X.ms.length).foldl setM []) x = firstM X.ms x := fun x => by
      rw [alook_rev _ _ _ _ (Nat.le_refl _), List.take_length]
      simp [alook]
    generalize (revE X.ms X.ms.length).foldl setM [] = am at *
    have HLK := hid hlk
    have HI := hid hI
    have u0 := cell_of_row _ _ 0 _ _ _ hI.unit
    simp only [List.getElem?_toArray, List.getElem?_cons_zero, List.getElem?_cons_succ] at u0
    rw [HV.out.1, ← HN.out.1] at u0
    have hpl2 : part < X.ps.length := by rw [← HN.out.1]; exact hpl
    have hpr := HR.out.1.below hI.below
    obtain ⟨pb, po, rfl, -, -⟩ := hpr.at (by have := flat_len PtR.cells 4 (fun _ => rfl) X.ps; omega)
    obtain ⟨-, -, -, p3⟩ := ptr_cells hpr part hpl2
    have hge : X.ps[part] = y := by have := HY.out; rw [List.getElem?_eq_getElem hpl2] at this; exact Option.some.inj this
    rw [hge] at p3
    have HPT := hid (H.out.pts y (List.mem_of_getElem? HY.out))
    have c5 := cell_of_row _ _ 0 _ _ _ hI.box
    simp only [List.getElem?_toArray, List.getElem?_cons_zero, List.getElem?_cons_succ] at c5
    unfold Sl.val at p3
    obtain ⟨N, hN⟩ : ∃ N, N = y.pieces.l.length := ⟨_, rfl⟩
    have HNN := hid hN
    rw [← hN] at p3 hn
    clear hI hlk hpr hge hN hseq HI4
    obtain ⟨V, hV⟩ : ∃ V, V = y.pieces.l.map (itemP (firstM X.ms) part) := ⟨_, rfl⟩
    have HVV := hid hV
    have HVL : Hid (V.length = N) := by unfold Hid; rw [hV, List.length_map, HNN.out]
    clear hV
    go_wp2_with fail
    go_loopw [8, 40] (fun v i wr => ∃ k : Nat, k ≤ N ∧ i = .int .i64 k ∧ wr.ownsRow W'.heap.size 74 7 v k ((V.take k).flatMap Itm.cells) ∧ Below W'.heap.size W' wr) (fun _ i _ => N - (intOf i).toNat)
    case atStart => exact ⟨0, Nat.zero_le _, rfl, World.ownsRow_nil _ _ _ _, Below.refl _ _⟩
    case round =>
      rename World => wr
      obtain ⟨k, hk, rfl, ho, hb⟩ := hrel
      have HO := hid ho
      have HB := hid hb
      obtain ⟨vp, vc, rfl, -⟩ := own_shape ho
      by_cases hlt : k < N
      · have hkI : (k : Int) < N := by omega
        have hkl : k < y.pieces.l.length := by rw [← HNN.out]; exact hlt
        have hbW := HI.out.below.trans (hb.mono HI.out.below.size)
        have hpr := HPT.out.row.below hbW
        obtain ⟨qb, qo, hqe, -, -⟩ := hpr.at (by have := flat_len PcR.cells 11 (fun _ => rfl) y.pieces.l; omega)
        rw [hqe] at hpr ⊢
        obtain ⟨x0, x1, x2, x3, x4, x5, x6, x7, x8, x9, x10⟩ := pcr_cells hpr k hkl
        have HRD := hid ((HPT.out.pcs _ (List.getElem_mem hkl)).below hbW)
        have HIT : Hid (V[k]? = some (itemP (firstM X.ms) part y.pieces.l[k])) := by unfold Hid; rw [HVV.out, List.getElem?_map, List.getElem?_eq_getElem hkl]; rfl
        generalize y.pieces.l[k] = x at *
        unfold Sl.val at x4 x9
        clear ho hb hpr hqe hkl hbW
        go_upto_block 4 with (fail)
        obtain ⟨W6, hW6⟩ : ∃ W6, W6 = (wr.alloc (.cells #[.int .i64 x.kind, .int .i64 x.file, .int .i64 x.line, .string x.l.name, .slice x.l.opers.p x.l.opers.l.length x.l.opers.c, .int .i64 x.v.add, .string x.v.plus, .string x.v.minus, .int .i64 x.size, .slice x.b.p x.b.l.length x.b.c, .int .i64 x.align] 64)).alloc (.cells #[.int .i64 1, .int .i64 0, .int .i64 0, .int .i64 0, .int .i64 0, .int .i64 0, .int .i64 0] 74) := ⟨_, rfl⟩
        rw [← hW6]
        have hB6 : Below wr.heap.size wr W6 := by rw [hW6]; exact ((Below.refl _ _).alloc (Nat.le_refl _) _).alloc (by simp) _
        have hz6 : W6.heap.size = wr.heap.size + 2 := by rw [hW6]; simp
        have hbx : BxP wr.heap.size x W6 := by unfold BxP; rw [hW6]; exact (Below.heap_alloc _ _ _ (by simp)).trans (heap_alloc_new _ _)
        have hix : W6.heap[wr.heap.size + 1]? = some (.cells (Itm.mk 1 0 0 0 0 0 0).cells.toArray 74 (0, 0)) := by rw [hW6]; exact heap_newAt _ _ _ (by simp)
        have hwz : W'.heap.size ≤ wr.heap.size := HB.out.size
        have hsz : W.heap.size + 4 ≤ W'.heap.size := HI.out.size
        have hbW : Below W'.heap.size W' W6 := HB.out.trans (hB6.mono hwz)
        have c5 := (hbW.cell (p := ⟨W.heap.size + 1 + 1, 0, none⟩) (show W.heap.size + 1 + 1 < W'.heap.size by omega)).trans c5
        have hmp : MapIs Value.string Mk.val W6 (W.heap.size + 1) am := HI.out.map.below hbW (by omega)
        have HBR : Hid (Calls Try.prog 31 #[.map (some (W.heap.size + 1)), .int .i64 (part : Nat), .agg #[.string x.l.name, .slice x.l.opers.p x.l.opers.l.length x.l.opers.c]] W6 (BrT (firstM X.ms) part x.l.name x.l.opers.l W6)) := by
          have := branch_any x.l (HRD.out.op.below hB6) part _ am hmp (by omega)
          rw [show alook am = firstM X.ms from funext HLK.out] at this
          exact this
        obtain ⟨y0, -, -, y3, y4, -, -, -, y8, y9, y10⟩ := box_cells hbx
        obtain ⟨i0, i1, i2, i3, i4, i5, i6⟩ := itm_cells hix
        obtain ⟨f0, f1, f2, f3, f4, f5, f6⟩ := itm_frozen hix
        dsimp only at i0 i1 i2 i3 i4 i5 i6
        unfold Sl.val at y4 y9
        have HB6 := hid hB6
        have HIX := hid hix
        have HZ6 := hid hz6
        have HW6 := hid hW6
        obtain ⟨R, hR⟩ : ∃ R, R = itemP (firstM X.ms) part x := ⟨_, rfl⟩
        have HR2 := hid hR
        rw [← hR] at HIT
        clear hR hW6 hB6 hbx hix hz6 hbW hmp u0 p3 x0 x1 x2 x3 x4 x5 x6 x7 x8 x9 x10
        have hlt1 : wr.heap.size + 1 < W6.heap.size := by have := HZ6.out; omega
        have hlt0 : wr.heap.size < W6.heap.size := by have := HZ6.out; omega
        go_cut [12, 13] from 47 to 77 (fun _ _ wx => wx.heap[wr.heap.size + 1]? = some (.cells R.cells.toArray 74 (0, 0)) ∧ Below wr.heap.size wr wx)
        case first =>
          by_cases k2 : x.kind = 2
          · have n2 : (x.kind == 2) = true := by simpa using k2
            cases hbr : brP (firstM X.ms) part x.l.name x.l.opers.l with
            | none =>
              have HRR : Hid (R = ⟨1, 4, 0, 0, 0, 0, 0⟩) := by unfold Hid; rw [HR2.out]; unfold itemP; simp [k2, hbr]
              have HBR : Hid (Calls Try.prog 31 #[.map (some (W.heap.size + 1)), .int .i64 (part : Nat), .agg #[.string x.l.name, .slice x.l.opers.p x.l.opers.l.length x.l.opers.c]] W6 fun e w' => e = .returned (.tuple #[.agg #[.int .i64 0, .int .i64 0, .int .i64 0, .int .i64 0, .int .i64 0, .int .i64 0, .int .i64 0], .bool false]) ∧ Below W6.heap.size W6 w') := by
                have := HBR.out
                unfold BrT at this
                rw [hbr] at this
                exact this
              clear hbr k2
              have HF7 : Hid (∀ w7 : World, Below W6.heap.size W6 w7 → Below wr.heap.size wr w7 ∧ w7.heap[wr.heap.size + 1]? = some (.cells (Itm.mk 1 0 0 0 0 0 0).cells.toArray 74 (0, 0)) ∧ wr.heap.size + 1 < w7.heap.size ∧ wr.heap.size < w7.heap.size) := fun w7 hb7 => by
                have := hb7.size
                exact ⟨HB6.out.trans (hb7.mono (by omega)), (hb7.block _ hlt1).trans HIX.out, by omega, by omega⟩
              go_wp2_with (go_at_call 31; go_loud ((with_reducible refine HBR.out.mono ?_); rintro e w7 ⟨rfl, hb7⟩; obtain ⟨hB7, hx7, z1, z0⟩ := HF7.out w7 hb7; obtain ⟨j0, j1, j2, j3, j4, j5, j6⟩ := itm_cells hx7; obtain ⟨g0, g1, g2, g3, g4, g5, g6⟩ := itm_frozen hx7; dsimp only at j0 j1 j2 j3 j4 j5 j6; have HB7 := hid hB7; have HX7 := hid hx7; clear hb7 hB7 hx7))
              go_meet
              rw [HRR.out]
              refine ⟨(Below.heap_alloc _ _ _ (by simpa using z1)).trans (heap_setCell_same _ _ 1 _ _ _ HX7.out), (HB7.out.setCell (p := ⟨wr.heap.size + 1, 1, none⟩) (Nat.le_succ _) _).alloc (by simp; omega) _⟩
            | some r =>
              obtain ⟨r0, r1, r2, r3, r4, r5, r6⟩ := r
              have HRR : Hid (R = ⟨r0, r1, r2, r3, r4, r5, r6⟩) := by unfold Hid; rw [HR2.out]; unfold itemP; simp [k2, hbr]
              have HBR : Hid (Calls Try.prog 31 #[.map (some (W.heap.size + 1)), .int .i64 (part : Nat), .agg #[.string x.l.name, .slice x.l.opers.p x.l.opers.l.length x.l.opers.c]] W6 fun e w' => e = .returned (.tuple #[.agg #[.int .i64 r0, .int .i64 r1, .int .i64 r2, .int .i64 r3, .int .i64 r4, .int .i64 r5, .int .i64 r6], .bool true]) ∧ Below W6.heap.size W6 w') := by
                have := HBR.out
                unfold BrT at this
                rw [hbr] at this
                exact this
              clear hbr k2
              have HF7 : Hid (∀ w7 : World, Below W6.heap.size W6 w7 → Below wr.heap.size wr w7 ∧ w7.heap[wr.heap.size + 1]? = some (.cells (Itm.mk 1 0 0 0 0 0 0).cells.toArray 74 (0, 0)) ∧ wr.heap.size + 1 < w7.heap.size ∧ wr.heap.size < w7.heap.size) := fun w7 hb7 => by
                have := hb7.size
                exact ⟨HB6.out.trans (hb7.mono (by omega)), (hb7.block _ hlt1).trans HIX.out, by omega, by omega⟩
              go_wp2_with (go_at_call 31; go_loud ((with_reducible refine HBR.out.mono ?_); rintro e w7 ⟨rfl, hb7⟩; obtain ⟨hB7, hx7, z1, z0⟩ := HF7.out w7 hb7; obtain ⟨j0, j1, j2, j3, j4, j5, j6⟩ := itm_cells hx7; obtain ⟨g0, g1, g2, g3, g4, g5, g6⟩ := itm_frozen hx7; dsimp only at j0 j1 j2 j3 j4 j5 j6; have HB7 := hid hB7; have HX7 := hid hx7; clear hb7 hB7 hx7))
              go_meet
              rw [HRR.out]

              refine ⟨(Below.heap_alloc _ _ _ (by simpa using z1)).trans (put7 HX7.out _ _ _ _ _ _ _), (below_put HB7.out (Nat.le_succ _) _ _ _ _ _ _ _).alloc (by simp; omega) _⟩
          · have n2 : (x.kind == 2) = false := by simpa using k2
            by_cases k1 : x.kind = 1
            · have n1 : (x.kind == 1) = true := by simpa using k1
              have HRR : Hid (R = ⟨1, 4, 0, 0, 0, 0, 0⟩) := by unfold Hid; rw [HR2.out]; unfold itemP; simp [k1]
              go_wp2_with fail
              go_meet
              rw [HRR.out]
              exact ⟨heap_setCell_same _ _ 1 _ _ _ HIX.out, HB6.out.setCell (p := ⟨wr.heap.size + 1, 1, none⟩) (Nat.le_succ _) _⟩
            · have n1 : (x.kind == 1) = false := by simpa using k1
              by_cases k3 : x.kind = 3
              · have n3 : (x.kind == 3) = true := by simpa using k3
                have HRR : Hid (R = ⟨1, x.size, 0, 0, 0, 0, 0⟩) := by unfold Hid; rw [HR2.out]; unfold itemP; simp [k3]
                go_wp2_with fail
                go_meet
                rw [HRR.out]
                exact ⟨heap_setCell_same _ _ 1 _ _ _ HIX.out, HB6.out.setCell (p := ⟨wr.heap.size + 1, 1, none⟩) (Nat.le_succ _) _⟩
              · have n3 : (x.kind == 3) = false := by simpa using k3
                by_cases k4 : x.kind = 4
                · have n4 : (x.kind == 4) = true := by simpa using k4
                  have HRR : Hid (R = ⟨1, x.b.l.length, 0, 0, 0, 0, 0⟩) := by unfold Hid; rw [HR2.out]; unfold itemP; simp [k4]
                  go_wp2_with fail
                  go_meet
                  rw [HRR.out]
                  exact ⟨heap_setCell_same _ _ 1 _ _ _ HIX.out, HB6.out.setCell (p := ⟨wr.heap.size + 1, 1, none⟩) (Nat.le_succ _) _⟩
                · have n4 : (x.kind == 4) = false := by simpa using k4
                  by_cases k5 : x.kind = 5
                  · have n5 : (x.kind == 5) = true := by simpa using k5
                    have HRR : Hid (R = ⟨2, 0, x.align, 0, 0, 0, 0⟩) := by unfold Hid; rw [HR2.out]; unfold itemP; simp [k5]
                    go_wp2_with fail
                    go_meet
                    rw [HRR.out]
                    exact ⟨put7 HIX.out _ _ _ _ _ _ _, below_put HB6.out (Nat.le_succ _) _ _ _ _ _ _ _⟩
                  · have n5 : (x.kind == 5) = false := by simpa using k5
                    have HRR : Hid (R = ⟨1, 0, 0, 0, 0, 0, 0⟩) := by unfold Hid; rw [HR2.out]; unfold itemP; simp [k1, k2, k3, k4, k5]
                    go_wp2_with fail
                    go_meet
                    rw [HRR.out]
                    exact ⟨HIX.out, HB6.out⟩
        case rest =>
          obtain ⟨hx7, hb7⟩ := hcut
          clear y0 y3 y4 y8 y9 y10 i0 i1 i2 i3 i4 i5 i6 f0 f1 f2 f3 f4 f5 f6 c5 hlt1 hlt0
          obtain ⟨j0, j1, j2, j3, j4, j5, j6⟩ := itm_cells hx7
          have hor : wc.ownsRow W'.heap.size 74 7 (.slice vp k vc) k ((V.take k).flatMap Itm.cells) := own_below HO.out hb7
          have hbb : Below W'.heap.size W' wc := HB.out.trans (hb7.mono hwz)
          have hwzc := hbb.size
          have HX7 := hid hx7
          have HOR := hid hor
          have HBB := hid hbb
          clear hx7 hb7 hor hbb
          go_wp2_with ((with_reducible show wpList _ _ _ (⟨some 81, _, _, _, _, _⟩ :: _) _ _); go_loud (refine wpList_app EItem rfl _ _ rfl W'.heap.size (.slice vp k vc) k ((V.take k).flatMap Itm.cells) rfl (own_below HOR.out (alloc_below _ _)) _ 1 1 R.cells rfl rfl (by intro h; cases h) (row_blkAt (heap_alloc_new _ _)) (itm_ones _) (by unfold maxLen; omega) (by omega) (by simp; omega) ?_); intro v2 w2 ho2 hg2 hs2; have HO2 := hid ho2; have HB2 := hid ((HBB.out.alloc HBB.out.size _).grown hg2 (by simp; omega) (fun r e => own_ge HOR.out r e)); clear ho2 hg2 hs2)
          have hsz2 : (V.take (k + 1)).flatMap Itm.cells = (V.take k).flatMap Itm.cells ++ R.cells := by
            rw [List.take_add_one, HIT.out]; simp
          exact ⟨⟨k + 1, by omega, by go_num, by rw [hsz2]; exact HO2.out, HB2.out⟩, by simp [intOf]; omega⟩
      · have hke : k = N := by omega
        subst hke
        have hDW : D < W'.heap.size := (Array.getElem?_eq_some_iff.1 hDd).1
        have HDD := hid ((hb.block D hDW).trans hDd)
        clear ho hb hDd c5 p3 u0
        go_wp2_with fail
        refine ⟨by simp, .inl ⟨_, _, rfl, run_takeDeferred HDD.out, ?_⟩⟩
        have hown := own_blk (w' := wr.putObj D (.deferred none)) HO.out (fun g hg => World.putObj_heap_other (by have := own_ge HO.out g hg; omega))
        obtain ⟨p2, c2, he, hr⟩ := own_shape hown
        cases he
        rw [List.take_of_length_le (by rw [HVL.out]; exact Nat.le_refl _), HVV.out] at hr
        have hbf : Below W.heap.size W (wr.putObj D (.deferred none)) := (HI.out.below.trans (HB.out.mono HI.out.below.size)).trans (belowK_b (w := W4) (by omega) _ _ _ _ hD HDD.out rfl rfl)
        refine ⟨.slice vp k vc, by simp [results, Try.results17, go_sem], vp, vc, by rw [HNN.out], hr, hbf⟩
  case stop =>
    rintro D c pre W' hD hpre hF
    exact hF.elim
end Go.Proofs.Ythlingholhjcnaa
namespace Go.Proofs.Ythlingholhjcnaa
open Go.RowKit
variable {W W' w w' : World}
theorem begunX {X : FV} {n : Nat} (h : X.pl = (FP.rows 0 [rowB n]).1) : ∃ y x, X.ps = [y] ∧ y.pieces.l = [x] ∧ x.kind = 2 ∧ X.ms.length = 1 ∧ X.gs.length = 0 ∧ X.fs.length = 0 ∧ itemP (firstM X.ms) (0 : Nat) x = ⟨3, 0, 0, 0, 0, -1048576, 1048572⟩ := by
  rw [rowsB] at h
  obtain ⟨pv, mv, gv, fv, ps, ms, gs, fs⟩ := X
  have h1 : ps.map PtR.pl = [⟨text0, 0, 1, [pcB 2]⟩] := congrArg FP.ps h
  have h2 : ms = [⟨⟨#[97]⟩, 0, 1, 0, 0, false, v00⟩] := congrArg FP.ms h
  have h3 : gs = [] := congrArg FP.gs h
  have h4 : fs = [] := congrArg FP.fs h
  obtain ⟨y, rfl⟩ : ∃ y, ps = [y] := by
    cases ps with
    | nil => cases h1
    | cons y l => cases l with
      | nil => exact ⟨y, rfl⟩
      | cons z l => simp at h1
  have h5 : y.pl = ⟨text0, 0, 1, [pcB 2]⟩ := by simpa using h1
  have h6 : y.pieces.l.map PcR.pl = [pcB 2] := congrArg Pt.pieces h5
  obtain ⟨x, hx⟩ : ∃ x, y.pieces.l = [x] := by
    revert h6
    cases y.pieces.l with
    | nil => intro h6; cases h6
    | cons x l => cases l with
      | nil => exact fun _ => ⟨x, rfl⟩
      | cons z l => intro h6; simp at h6
  rw [hx] at h6
  have h7 : x.pl = pcB 2 := by simpa using h6
  have k1 : x.kind = 2 := congrArg Pc.kind h7
  have k2 : x.l.name = ⟨#[98, 46, 101, 113]⟩ := congrArg Pc.name h7
  have k3 : x.l.opers.l = [opB] := congrArg Pc.opers h7
  refine ⟨y, x, rfl, hx, k1, by rw [h2]; rfl, by rw [h3]; rfl, by rw [h4]; rfl, ?_⟩
  unfold itemP
  rw [k1, k2, k3, h2, if_pos rfl]
  dsimp only
  kernel_rfl
/-- What One gives to begun. -/
structure BgX (w5 : World) (b o qb qo : Nat) (qc c0 d1 e2 : Nat) (m1 g2 : Option Addr) : Prop where
  c3 : w5.cell? ⟨b, o + 3, none⟩ = some (.slice (some ⟨qb, qo, none⟩) 1 qc)
  k : w5.cell? ⟨qb, qo, none⟩ = some (.int .i64 2)
  lt : b < w5.heap.size ∧ qb < w5.heap.size
  it : ∀ w, Below w5.heap.size w5 w → Calls Try.prog 17 #[.agg #[.slice (some ⟨b, o, none⟩) 1 c0, .slice m1 1 d1, .slice g2 0 e2], .int .i64 0] w fun e w' =>
    ∃ ib io ic, e = .returned (.slice (some ⟨ib, io, none⟩) 1 ic) ∧ w'.cell? ⟨ib, io, none⟩ = some (.int .i64 3) ∧ w'.cell? ⟨ib, io + 1, none⟩ = some (.int .i64 0) ∧ w'.cell? ⟨ib, io + 2, none⟩ = some (.int .i64 0) ∧ w'.cell? ⟨ib, io + 3, none⟩ = some (.int .i64 0) ∧ w'.cell? ⟨ib, io + 4, none⟩ = some (.int .i64 0) ∧ w'.cell? ⟨ib, io + 5, none⟩ = some (.int .i64 (-1048576)) ∧ w'.cell? ⟨ib, io + 6, none⟩ = some (.int .i64 1048572) ∧ ib < w'.heap.size ∧ Below w.heap.size w w'
theorem bgone {W4 : World} (H : Bg W W4) : Calls Try.prog 9 #[.int .i64 0, .slice (some ⟨W.heap.size + 1 + 1 + 1, 0, none⟩) 1 1] W4 fun e w5 =>
    ∃ b o qb qo qc c0 d1 e2 m1 g2 f3 h3, e = .returned (.tuple #[.agg #[.slice (some ⟨b, o, none⟩) 1 c0, .slice m1 1 d1, .slice g2 0 e2], .slice f3 0 h3]) ∧ BgX w5 b o qb qo qc c0 d1 e2 m1 g2 ∧ Below W4.heap.size W4 w5 := by
  refine H.one.mono ?_
  rintro e w5 ⟨⟨X, rfl, h5, hp5, hs5⟩, hb5⟩
  obtain ⟨y, x, hy, hx, hk, hm, hg, hf, hit⟩ := begunX hp5
  have hrd := h5.rd hs5 (by show costs [rowB 0] ≤ _; decide)
  obtain ⟨p0, c0, e0, r0⟩ := hrd.pv
  obtain ⟨p1, d1, e1, r1⟩ := hrd.mv
  obtain ⟨p2, e2, e2', r2⟩ := hrd.gv
  obtain ⟨p3, h3, e3, r3⟩ := hrd.fv
  rw [hy] at e0 r0
  rw [hm] at e1
  rw [hg] at e2'
  rw [hf] at e3
  obtain ⟨b, o, rfl, hbl, -⟩ := r0.at (by simp [PtR.cells])
  obtain ⟨-, -, -, q3⟩ := ptr_cells r0 0 (by simp)
  have hpt := hrd.pts y (by rw [hy]; simp)
  have hpr := hpt.row
  rw [hx] at hpr
  obtain ⟨qb, qo, hq, hql, -⟩ := hpr.at (by simp [PcR.cells])
  rw [hq] at hpr
  obtain ⟨k0, -⟩ := pcr_cells hpr 0 (by simp)
  simp only [Nat.zero_mul, Nat.add_zero, List.getElem_cons_zero] at q3 k0
  rw [hk] at k0
  have q3 : w5.cell? ⟨b, o + 3, none⟩ = some (.slice (some ⟨qb, qo, none⟩) 1 y.pieces.c) := by rw [q3]; unfold Sl.val; rw [hx, hq]; rfl
  refine ⟨b, o, qb, qo, y.pieces.c, c0, d1, e2, p1, p2, p3, h3, by rw [e0, e1, e2', e3]; rfl, ⟨q3, k0, ⟨hbl, hql⟩, fun w hw => ?_⟩, hb5⟩
  have := items_any (hrd.below hw) 0 y (by rw [hy]; rfl) (by rw [hx]; exact (by decide : 1 ≤ 4000000))
  rw [e0, e1, e2'] at this
  refine Calls.mono this ?_
  rintro e w' ⟨p, c, rfl, hr, hb⟩
  rw [hx] at hr ⊢
  rw [List.map_cons, List.map_nil, hit] at hr
  obtain ⟨ib, io, rfl, hil, hc⟩ := hr.at (by simp [Itm.cells])
  refine ⟨ib, io, c, rfl, hc 0 (by decide), hc 1 (by decide), hc 2 (by decide), hc 3 (by decide), hc 4 (by decide), hc 5 (by decide), hc 6 (by decide), hil, hb⟩
set_option maxRecDepth 40000 in
set_option maxHeartbeats 4000000 in
theorem begun_any (W : World) : Calls Try.prog 7 #[] W fun e w' => e = .returned (.bool true) ∧ Below W.heap.size W w' := by
  obtain ⟨W4, hW4⟩ := bg W
  have HO := hid (bgone hW4)
  have HE := hid hW4.eq
  have HB4 := hid hW4.w
  have hz4 : W.heap.size + 1 + 1 + 1 < W4.heap.size := by rw [hW4.eq]; simp
  have HZ4 := hid hz4
  clear hW4 hz4
  go_enter Try.func7, Try.ntmps7
  go_upto_region 2 with (fail)
  go_wp2_with (first
   | (go_at_call 9; rw [← HE.out]; (with_reducible refine HO.out.mono ?_); rintro e w5 ⟨b, o, qb, qo, qc, c0, d1, e2, m1, g2, f3, h3, rfl, hX5, hb5⟩; have HX5 := hid hX5; have c3 := hX5.c3; have ck := hX5.k; have hl1 := hX5.lt.1; have hl2 := hX5.lt.2; have HB5 := hid hb5; clear hX5 hb5)
   | (go_at_call 17; (with_reducible refine (HX5.out.it _ (alloc_below _ _)).mono ?_); go_loud (rintro e w7 ⟨ib, io, ic, rfl, v0, v1, v2, v3, v4, v5, v6, hil, hb7⟩; have u0 := (hb7.cell (p := ⟨w5.heap.size, 0, none⟩) (by simp)).trans (cell_of_row _ _ 0 _ _ _ (heap_alloc_new _ _)); have u1 := (hb7.cell (p := ⟨w5.heap.size, 1, none⟩) (by simp)).trans (cell_of_row _ _ 1 _ _ _ (heap_alloc_new _ _)); simp only [List.getElem?_toArray, List.getElem?_cons_zero, List.getElem?_cons_succ] at u0 u1; have c3 := (hb7.cell (p := ⟨b, o + 3, none⟩) (by simp; omega)).trans (((alloc_below _ _).cell (p := ⟨b, o + 3, none⟩) hl1).trans c3); have ck := (hb7.cell (p := ⟨qb, qo, none⟩) (by simp; omega)).trans (((alloc_below _ _).cell (p := ⟨qb, qo, none⟩) hl2).trans ck); have HB7 := hid hb7; clear hb7)))
  go_ret
  exact ⟨rfl, (HB4.out.trans (HB5.out.mono (Nat.le_trans (by omega) HB4.out.size))).trans ((alloc_below _ _).trans (HB7.out.mono (by simp)) |>.mono (Nat.le_trans HB4.out.size HB5.out.size))⟩
end Go.Proofs.Ythlingholhjcnaa
namespace Go.Proofs.Ythlingholhjcnaa
open Go.RowKit
variable {W W' w w' : World}
theorem shortR (p : Option Addr) (n c : Nat) (W : World) : Calls Try.prog 8 #[.slice p n c] W fun e w' => e = .returned (.bool (decide (n ≤ 300))) ∧ w' = W := by
  go_enter Try.func8, Try.ntmps8
  go_wp2
  go_ret
  refine ⟨?_, rfl⟩
  show Ending.returned (.bool (decide ((n : Int) ≤ 300))) = _
  congr 2
  apply Bool.eq_iff_iff.2
  simp
  try omega
/-- A unit in slices. -/
structure OnX (w : World) (S : FP) (pp pm pg pf : Option Addr) (np nm ng nf cp cm cg cf : Nat) (X : FV) : Prop where
  pv : X.pv = .slice pp np cp
  mv : X.mv = .slice pm nm cm
  gv : X.gv = .slice pg ng cg
  fv : X.fv = .slice pf nf cf
  rd : UnRd w X
  pl : X.pl = S
def OneR (W : World) (S : FP) (e : Ending) (w5 : World) : Prop := ∃ pp pm pg pf np nm ng nf cp cm cg cf X, e = .returned (.tuple #[.agg #[.slice pp np cp, .slice pm nm cm, .slice pg ng cg], .slice pf nf cf]) ∧ OnX w5 S pp pm pg pf np nm ng nf cp cm cg cf X ∧ Below W.heap.size W w5
theorem oneRd {W : World} {S : FP} {n : Nat} {p : Option Addr} {c m : Nat} {file : Int} {f : FuncId} (hn : n ≤ 1000000000000) (h : Calls Try.prog f #[.int .i64 file, .slice p m c] W (OneT W S n)) :
    Calls Try.prog f #[.int .i64 file, .slice p m c] W (OneR W S) := by
  refine h.mono ?_
  rintro e w5 ⟨⟨X, rfl, h5, hp5, hs5⟩, hb5⟩
  have hrd := h5.rd hs5 hn
  obtain ⟨p0, c0, e0, -⟩ := hrd.pv
  obtain ⟨p1, c1, e1, -⟩ := hrd.mv
  obtain ⟨p2, c2, e2, -⟩ := hrd.gv
  obtain ⟨p3, c3, e3, -⟩ := hrd.fv
  exact ⟨p0, p1, p2, p3, _, _, _, _, c0, c1, c2, c3, X, by rw [e0, e1, e2, e3], ⟨e0, e1, e2, e3, hrd, hp5⟩, hb5⟩
section
variable {S : FP} {pp pm pg pf qp qm qg qf : Option Addr} {np nm ng nf cp cm cg cf nq nn nh ni dp dm dg df : Nat} {X Y : FV}
theorem OnX.below (h : OnX w S pp pm pg pf np nm ng nf cp cm cg cf X) (hb : Below w.heap.size w w') : OnX w' S pp pm pg pf np nm ng nf cp cm cg cf X := ⟨h.pv, h.mv, h.gv, h.fv, h.rd.below hb, h.pl⟩
theorem OnX.same (h1 : OnX w S pp pm pg pf np nm ng nf cp cm cg cf X) (h2 : OnX w S qp qm qg qf nq nn nh ni dp dm dg df Y) :
    Calls Try.prog 13 #[.agg #[.slice pp np cp, .slice pm nm cm, .slice pg ng cg], .agg #[.slice qp nq dp, .slice qm nn dm, .slice qg nh dg]] w fun e w' => e = .returned (.bool true) ∧ Below w.heap.size w w' := by
  have := same_rd h1.rd h2.rd (h1.pl.trans h2.pl.symm)
  rw [h1.pv, h1.mv, h1.gv, h2.pv, h2.mv, h2.gv] at this
  exact this
theorem OnX.equal (h1 : OnX w S pp pm pg pf np nm ng nf cp cm cg cf X) (h2 : OnX w S qp qm qg qf nq nn nh ni dp dm dg df Y) :
    Calls Try.prog 14 #[.slice pf nf cf, .slice qf ni df] w fun e w' => e = .returned (.bool true) ∧ Below w.heap.size w w' := by
  have := equal_rd h1.rd h2.rd (h1.pl.trans h2.pl.symm)
  rw [h1.fv, h2.fv] at this
  exact this
end
theorem un_cells {g : Nat} {a b c : Value} (h : W.heap[g]? = some (.cells #[a, b, c] 32 (0, 0))) : W.cell? ⟨g, 0, none⟩ = some a ∧ W.cell? ⟨g, 1, none⟩ = some b ∧ W.cell? ⟨g, 2, none⟩ = some c :=
  ⟨cell_of_row _ _ 0 _ _ _ h, cell_of_row _ _ 1 _ _ _ h, cell_of_row _ _ 2 _ _ _ h⟩
theorem ln_cells {g : Nat} {a b : Value} (h : W.heap[g]? = some (.cells #[a, b] 25 (0, 0))) : W.cell? ⟨g, 0, none⟩ = some a ∧ W.cell? ⟨g, 1, none⟩ = some b :=
  ⟨cell_of_row _ _ 0 _ _ _ h, cell_of_row _ _ 1 _ _ _ h⟩
set_option maxRecDepth 40000 in
set_option maxHeartbeats 4000000 in
theorem ones_walk (W : World) (file : Int) (rows : Sl RwR) (x : LnR) {bytes : Nat} (hr : SlOk W RwR.cells bytes rows) (hok : ∀ r ∈ rows.l, r.ok W) (hx : x.ok W) (hcost : costs rows.l ≤ 3000000) :
    Calls Try.prog 3 #[.int .i64 file, .slice rows.p rows.l.length rows.c, .agg #[.string x.name, .slice x.opers.p x.opers.l.length x.opers.c]] W fun e w' => e = .returned (.bool true) ∧ Below W.heap.size W w' := by
  obtain ⟨p, c, l⟩ := rows
  dsimp only at *
  have HBG := hid begun_any
  have HSH := hid (shortR p l.length c)
  have HONE : Hid (∀ w, Below W.heap.size W w → l.length ≤ 300 → Calls Try.prog 9 #[.int .i64 file, .slice p l.length c] w (OneR w (FP.rows file l).1)) := fun w hb hl => oneRd (by omega) (one_any file p c l w (hr.row.below hb) (fun r hr => ((hok r hr).s.below hb)) (by omega) hcost)
  have HRNE : Hid (∀ w, Below W.heap.size W w → l.length ≤ 300 → Calls Try.prog 10 #[.int .i64 file, .slice p l.length c] w (OneR w (FP.rows file l).1)) := fun w hb hl => oneRd (by omega) (rone_any file p c l w (hr.row.below hb) (fun r hr => ((hok r hr).s.below hb)) (by omega) hcost)
  have HG1 : Hid (∀ w, Below W.heap.size W w → Calls Try.prog 11 #[.agg #[.string x.name, .slice x.opers.p x.opers.l.length x.opers.c]] w (GrowsT x.name x.opers.l w)) := fun w hb => grows_any x (hx.opers.1.below hb)
  have HG2 : Hid (∀ w, Below W.heap.size W w → Calls Try.prog 12 #[.agg #[.string x.name, .slice x.opers.p x.opers.l.length x.opers.c]] w (GrowsT x.name x.opers.l w)) := fun w hb => rgrows_any x (hx.opers.1.below hb)
  obtain ⟨n, hn⟩ : ∃ n, n = l.length := ⟨_, rfl⟩
  rw [← hn] at HSH HONE HRNE ⊢
  have HN := hid hn
  have hA : Below W.heap.size W (W.alloc (.cells #[.string x.name, .slice x.opers.p x.opers.l.length x.opers.c] 25)) := alloc_below _ _
  have HA := hid hA
  have HB0 := hid ((alloc_below W (.cells #[.string x.name, .slice x.opers.p x.opers.l.length x.opers.c] 25)).block)
  clear hr hok hx hcost hn hA
  by_cases hs : n ≤ 300
  · have hds : decide (n ≤ 300) = true := by simpa using hs
    go_enter Try.func3, Try.ntmps3
    go_upto_region 1 with (fail)
    have HL0 : Hid ((W.alloc (.cells #[.string x.name, .slice x.opers.p x.opers.l.length x.opers.c] 25)).heap[W.heap.size]? = some (.cells #[.string x.name, .slice x.opers.p x.opers.l.length x.opers.c] 25 (0, 0))) := heap_alloc_new _ _
    go_wp2_with (first
      | (go_at_call 7; go_loud ((with_reducible refine (HBG.out _).mono ?_); rintro e w2 ⟨rfl, hb2⟩; have HB2 := hid (HA.out.trans (hb2.mono (by simp))); have HL2 := hid ((hb2.block _ (by simp)).trans HL0.out); clear hb2))
      | (go_at_call 8; go_loud ((with_reducible refine (HSH.out _).mono ?_); rintro e w3 ⟨rfl, rfl⟩)))
    rename World => w2
    refine (HONE.out w2 HB2.out hs).mono ?_
    rintro e w5 ⟨pp, pm, pg, pf, np, nm, ng, nf, cp, cm, cg, cf, X, rfl, hX, hb5⟩
    have hl2 := (Array.getElem?_eq_some_iff.1 HL2.out).1
    have HB5 := hid (HB2.out.trans (hb5.mono HB2.out.size))
    have HL5 := hid ((hb5.block _ hl2).trans HL2.out)
    obtain ⟨w6, hw6⟩ : ∃ w6, w6 = w5.alloc (.cells #[.slice pp np cp, .slice pm nm cm, .slice pg ng cg] 32) := ⟨_, rfl⟩
    have hl5 := (Array.getElem?_eq_some_iff.1 HL5.out).1
    have HB6 : Hid (Below W.heap.size W w6) := by rw [hw6]; exact HB5.out.alloc HB5.out.size _
    have HL6 : Hid (w6.heap[W.heap.size]? = some (.cells #[.string x.name, .slice x.opers.p x.opers.l.length x.opers.c] 25 (0, 0))) := by rw [hw6]; exact (Below.heap_alloc _ _ _ hl5).trans HL5.out
    have HX6 : Hid (OnX w6 (FP.rows file l).1 pp pm pg pf np nm ng nf cp cm cg cf X) := by rw [hw6]; exact hX.below (alloc_below _ _)
    have HU6 : Hid (w6.heap[w5.heap.size]? = some (.cells #[.slice pp np cp, .slice pm nm cm, .slice pg ng cg] 32 (0, 0))) := by rw [hw6]; exact heap_alloc_new _ _
    have HW6 := hid hw6
    clear hX hb5 hl2 hl5 hw6
    dsimp only
    go_upto_region 4 with (fail)
    rw [← HW6.out]
    go_wp2_with fail
    refine (HRNE.out w6 HB6.out hs).mono ?_
    rintro e w7 ⟨qp, qm, qg, qf, nq, nn, nh, ni, dp, dm, dg, df, Y, rfl, hY, hb7⟩
    have hl6 := (Array.getElem?_eq_some_iff.1 HL6.out).1
    have hu6 := (Array.getElem?_eq_some_iff.1 HU6.out).1
    obtain ⟨w8, hw8⟩ : ∃ w8, w8 = w7.alloc (.cells #[.slice qp nq dp, .slice qm nn dm, .slice qg nh dg] 32) := ⟨_, rfl⟩
    have hb68 : Below w6.heap.size w6 w8 := by rw [hw8]; exact hb7.alloc hb7.size _
    have HB8 : Hid (Below W.heap.size W w8) := HB6.out.trans (hb68.mono HB6.out.size)
    have HL8 : Hid (w8.heap[W.heap.size]? = some (.cells #[.string x.name, .slice x.opers.p x.opers.l.length x.opers.c] 25 (0, 0))) := (hb68.block _ hl6).trans HL6.out
    have HX8 : Hid (OnX w8 (FP.rows file l).1 pp pm pg pf np nm ng nf cp cm cg cf X) := HX6.out.below hb68
    have HY8 : Hid (OnX w8 (FP.rows file l).1 qp qm qg qf nq nn nh ni dp dm dg df Y) := by rw [hw8]; exact hY.below (alloc_below _ _)
    have HU8 : Hid (w8.heap[w5.heap.size]? = some (.cells #[.slice pp np cp, .slice pm nm cm, .slice pg ng cg] 32 (0, 0))) := (hb68.block _ hu6).trans HU6.out
    have HV8 : Hid (w8.heap[w7.heap.size]? = some (.cells #[.slice qp nq dp, .slice qm nn dm, .slice qg nh dg] 32 (0, 0))) := by rw [hw8]; exact heap_alloc_new _ _
    have HW8 := hid hw8
    clear hY hb7 hl6 hu6 hb68 hw8
    dsimp only
    go_upto_region 5 with (fail)
    rw [← HW8.out]
    obtain ⟨l0, l1⟩ := ln_cells HL8.out
    obtain ⟨r1, r2, r3, hg⟩ : ∃ r1 r2 r3, growsP x.name x.opers.l = (r1, r2, r3) := ⟨_, _, _, rfl⟩
    have HG1 : Hid (∀ w, Below W.heap.size W w → Calls Try.prog 11 #[.agg #[.string x.name, .slice x.opers.p x.opers.l.length x.opers.c]] w fun e w' => e = .returned (.tuple #[.int .i64 r1, .int .i64 r2, .bool r3]) ∧ Below w.heap.size w w') := fun w hb => by
      have := HG1.out w hb
      unfold GrowsT at this; rw [hg] at this; exact this
    have HG2 : Hid (∀ w, Below W.heap.size W w → Calls Try.prog 12 #[.agg #[.string x.name, .slice x.opers.p x.opers.l.length x.opers.c]] w fun e w' => e = .returned (.tuple #[.int .i64 r1, .int .i64 r2, .bool r3]) ∧ Below w.heap.size w w') := fun w hb => by
      have := HG2.out w hb
      unfold GrowsT at this; rw [hg] at this; exact this
    clear hg
    go_wp2_with (go_at_call 11; go_loud ((with_reducible refine (HG1.out _ HB8.out).mono ?_); rintro e w9 ⟨rfl, hb9⟩; have HB9 := hid (HB8.out.trans (hb9.mono HB8.out.size)); have HC9 := hid hb9; have HL9 := hid ((hb9.block _ (Array.getElem?_eq_some_iff.1 HL8.out).1).trans HL8.out); clear hb9; clear l0 l1; obtain ⟨l0, l1⟩ := ln_cells HL9.out))
    rename World => w9
    refine (HG2.out w9 HB9.out).mono ?_
    rintro e w10 ⟨rfl, hb10⟩
    have HB10 := hid (HB9.out.trans (hb10.mono HB9.out.size))
    have HC10 : Hid (Below w8.heap.size w8 w10) := HC9.out.trans (hb10.mono HC9.out.size)
    obtain ⟨u0, u1, u2⟩ := un_cells ((HC10.out.block _ (Array.getElem?_eq_some_iff.1 HU8.out).1).trans HU8.out)
    obtain ⟨v0, v1, v2⟩ := un_cells ((HC10.out.block _ (Array.getElem?_eq_some_iff.1 HV8.out).1).trans HV8.out)
    have HX10 := hid (HX8.out.below HC10.out)
    have HY10 := hid (HY8.out.below HC10.out)
    clear hb10 l0 l1
    dsimp only
    go_wp2_with (first
      | (go_at_call 13; go_loud ((with_reducible refine (HX10.out.same HY10.out).mono ?_); rintro e w11 ⟨rfl, hb11⟩; have HB11 := hid (HB10.out.trans (hb11.mono HB10.out.size)); have HX11 := hid (HX10.out.below hb11); have HY11 := hid (HY10.out.below hb11); clear hb11))
      | (go_at_call 14; go_loud ((with_reducible refine (HX11.out.equal HY11.out).mono ?_); rintro e w12 ⟨rfl, hb12⟩; have HB12 := hid (HB11.out.trans (hb12.mono HB11.out.size)); clear hb12)))
    go_ret
    exact ⟨rfl, HB12.out⟩
  · have hds : decide (n ≤ 300) = false := by simpa using hs
    have HQ := hid HA.out
    go_enter Try.func3, Try.ntmps3
    go_upto_region 1 with (fail)
    go_wp2_with (first
      | (go_at_call 7; go_loud ((with_reducible refine (HBG.out _).mono ?_); rintro e w2 ⟨rfl, hb2⟩; replace HQ := hid (HQ.out.trans (hb2.mono HQ.out.size)); clear hb2))
      | (go_at_call 8; go_loud ((with_reducible refine (HSH.out _).mono ?_); rintro e w3 ⟨rfl, rfl⟩)))
    go_ret
    exact ⟨rfl, HQ.out⟩
end Go.Proofs.Ythlingholhjcnaa
namespace Go.Proofs.Ythlingholhjcnaa
open Go.RowKit Go.ChangeShapes Go.WideShapes Go.ChangeAt

theorem bulk_one {H : Type} (d : DataW H) : 1 ≤ Rows.uptoBulk d := by
  cases d with
  | lit l => cases l <;> simp [Rows.uptoBulk]
  | _ => simp [Rows.uptoBulk]
theorem bulk_app {H : Type} (l r : List (DataW H)) : Rows.uptoBulkAll (l ++ r) = Rows.uptoBulkAll l + Rows.uptoBulkAll r := by
  induction l with
  | nil => simp [Rows.uptoBulkAll]
  | cons x l ih => simp only [List.cons_append, Rows.uptoBulkAll, ih]; omega
theorem bulk_mem {H : Type} {d : DataW H} {l : List (DataW H)} (h : d ∈ l) : Rows.uptoBulk d ≤ Rows.uptoBulkAll l := by
  induction l with
  | nil => cases h
  | cons x r ih =>
    simp only [Rows.uptoBulkAll]
    cases List.mem_cons.1 h with
    | inl e => subst e; omega
    | inr e => have := ih e; omega

section
variable {H : Type} (enc : TypeId × Value → H) (P : Program) (W : World)
/-- The cells of a value of type t that came in are those of some x of ours, of which we count no more than its bulk. -/
def OpensIn (t : TypeId) {α : Type} (f : α → List Value) (ok : α → Prop) (m : α → Nat) : Prop :=
  ∀ (n : Nat) (cs : List Value) (y : DataW H × List MemPlace), DataW.trod enc P W 0 (fun _ => true) true n t cs = some y → Light P t y.1 → ∃ x, cs = f x ∧ ok x ∧ m x ≤ Rows.uptoBulk y.1
variable {enc P W}
theorem OpensAs.one {t : TypeId} {α : Type} {f : α → List Value} {ok : α → Prop} (h : OpensAs enc P W t f ok) : OpensIn enc P W t f ok (fun _ => 1) := fun n cs y h1 h2 => by
  obtain ⟨x, e, o⟩ := h n cs y h1 h2
  exact ⟨x, e, o, bulk_one _⟩

/-- A slice of what opens. -/
theorem opens_sliceB {α : Type} {f : α → List Value} {ok : α → Prop} {m₀ : α → Nat} {t e : TypeId} {k : Nat} (ht : P.underlying t = some (.slice e)) (hc : P.cellsOf e = k) (hk0 : 0 < k) (hk : ∀ x, (f x).length = k) (hel : OpensIn enc P W e f ok m₀) :
    OpensIn enc P W t (fun z : Option Addr × Nat × List α => [Value.slice z.1 z.2.2.length z.2.1]) (fun z => z.2.2.length ≤ z.2.1 ∧ z.2.1 ≤ maxLen ∧ (z.1 = none → z.2.1 = 0) ∧ Row W z.1 (z.2.2.flatMap f) ∧ (∀ x ∈ z.2.2, ok x) ∧ z.2.1 * P.bytesOf e ≤ 140737488351232) (fun z => (z.2.2.map m₀).sum) := fun n cs y hf hlt => by
  rcases Go.Deep.open_slice ht hf with ⟨hcs, _⟩ | ⟨a, len, cap, m, n, D, Pl, hcs, _, hl, hm, hmm, hy, hx⟩
  · exact ⟨(none, 0, []), hcs, ⟨Nat.le_refl _, Nat.zero_le _, fun _ => rfl, Row.nil _ _, by simp, by simp⟩, by simp⟩
  · simp only [if_true] at hmm
    subst hmm
    have hwt : m * P.bytesOf e ≤ 140737488351232 := by
      refine hlt _ ?_
      rw [hy, DataW.weights, ht]
      refine List.mem_cons.2 (.inl ?_)
      congr 1
      simp; omega
    have hwe : ∀ i, i < len → Light P e (D i) := fun i hi => by
      refine light_all (ds := (List.range len).map D) (List.mem_map.2 ⟨i, List.mem_range.2 hi, rfl⟩) (fun m' hm' => hlt m' ?_)
      rw [hy, DataW.weights, ht]
      exact List.mem_cons_of_mem _ (List.mem_append_left _ hm')
    have each : ∀ i, i < len → ∃ x, ok x ∧ W.cells? 0 (a.add (i * k)) k = some (f x) ∧ m₀ x ≤ Rows.uptoBulk (D i) := fun i hi => by
      obtain ⟨cs', h1, h2⟩ := hx i (by omega)
      obtain ⟨x, rfl, hok, hmx⟩ := hel _ _ _ h2 (hwe i hi)
      rw [hc] at h1
      exact ⟨x, hok, h1, hmx⟩
    have build : ∀ j, j ≤ len → ∃ xs : List α, xs.length = j ∧ (xs.map m₀).sum ≤ Rows.uptoBulkAll ((List.range j).map D) ∧ ∀ i (hi : i < xs.length), ok xs[i] ∧ W.cells? 0 (a.add (i * k)) k = some (f xs[i]) := by
      intro j
      induction j with
      | zero => exact fun _ => ⟨[], rfl, by simp, by simp⟩
      | succ j ih =>
        intro hj
        obtain ⟨xs, hxl, hsu, hxs⟩ := ih (by omega)
        obtain ⟨x, hok, hce, hmx⟩ := each j (by omega)
        refine ⟨xs ++ [x], by simp [hxl], by rw [List.range_succ, List.map_append, List.map_append, bulk_app]; simp [Rows.uptoBulkAll]; omega, fun i hi => ?_⟩
        by_cases hij : i < xs.length
        · rw [List.getElem_append_left hij]; exact hxs i hij
        · have : i = xs.length := by simp at hi; omega
          subst this
          rw [← hxl] at hce
          simp only [List.getElem_append_right (Nat.le_refl _), Nat.sub_self, List.getElem_singleton]
          exact ⟨hok, hce⟩
    obtain ⟨xs, hxl, hsu, hxs⟩ := build len (Nat.le_refl _)
    refine ⟨(some a, m, xs), by rw [hcs]; simp only [hxl], ⟨by rw [hxl]; exact hl, hm, by simp, ?_, fun x hxm => ?_, hwt⟩, by rw [hy]; simp only [Rows.uptoBulk]; omega⟩
    · refine row_of_cells fun i hi => ?_
      simp only at hi ⊢
      rw [flat_len f k hk] at hi
      have hq : i / k < xs.length := (Nat.div_lt_iff_lt_mul hk0).2 (by rw [Nat.mul_comm]; exact hi)
      have hr := Nat.mod_lt i hk0
      have hi2 : k * (i / k) + i % k = i := Nat.div_add_mod i k
      obtain ⟨_, hlen, hcell⟩ := World.cells?_some (hxs _ hq).2
      have e1 := hcell (i % k) hr
      have e2 := flat_get f k hk xs (i / k) hq (i % k) hr
      rw [hi2] at e2
      have e3 : (a.add (i / k * k)).add (i % k) = a.add i := by rw [Go.Deep.add_add, Nat.mul_comm, hi2]
      rw [e3] at e1
      rw [e1, ← e2]
      exact List.getElem?_eq_getElem _
    · obtain ⟨i, hi, rfl⟩ := List.getElem_of_mem hxm
      exact (hxs i hi).1

/-- A struct that came in by value. -/
theorem param_structB {α : Type} {f : α → List Value} {ok : α → Prop} {m : α → Nat} {t : TypeId} {fs : Array Field} {base : Nat} {v : Value} {d : DataW H} {ps : List MemPlace} (ht : P.underlying t = some (.struct fs)) (ho : OpensIn enc P W t f ok m)
    (hv : Value.okWide P W .any base t v) (h : DataW.Trod enc P W 0 (fun _ => true) true t v d ps) (hlt : Light P t d) : ∃ x, v = .agg (f x).toArray ∧ ok x ∧ m x ≤ Rows.uptoBulk d := by
  obtain ⟨cs, rfl, _⟩ := okWide_struct ht hv
  obtain ⟨n, hf⟩ := h
  obtain ⟨x, e, hok, hm⟩ := ho _ _ _ hf hlt
  refine ⟨x, ?_, hok, hm⟩
  have e2 : cs.toList = f x := by simpa [Value.cells] using e
  rw [← e2]
theorem param_sliceB {α : Type} {f : α → List Value} {ok : α → Prop} {m : α → Nat} {t e : TypeId} {base : Nat} {v : Value} {d : DataW H} {ps : List MemPlace} (ht : P.underlying t = some (.slice e)) (ho : OpensIn enc P W t f ok m)
    (hv : Value.okWide P W .any base t v) (h : DataW.Trod enc P W 0 (fun _ => true) true t v d ps) (hlt : Light P t d) : ∃ x, [v] = f x ∧ ok x ∧ m x ≤ Rows.uptoBulk d := by
  obtain ⟨a1, len1, cap1, rfl⟩ := okWide_slice ht hv
  obtain ⟨n, hf⟩ := h
  obtain ⟨x, e, hok, hm⟩ := ho _ _ _ hf hlt
  exact ⟨x, by simpa [Value.cells] using e, hok, hm⟩
end
end Go.Proofs.Ythlingholhjcnaa
