/-
  A map's lookup and update at the operation, within a fence; the book-keeping of a range over a function that leaves cells of some types alone.
-/
import Derived.OwnWalkIn
import Derived.Test.YtpgdpddmgljpmaaRangeO
namespace Go.Proofs.Ytpgdpddmgljpmaa
open Go.RowKit
section
variable {κ β : Type} [DecidableEq κ] {P : Program} {k : TypeId} {mk : κ → Value} {mv : β → Value}

/-- 'm[x]' and 'v, ok := m[x]' at the operation, within a fence. -/
theorem wpListIn_maplook {F : Fence} {fn : Nat} {w : World} {ops : Array Oper} {rest : List Oper} {o : Oper} {a : Act} {Q : Exit → Act → World → Prop} {t el : TypeId}
    (K : KeyOk P k mk) (ht : P.underlying t = some (.map k el)) (hg : o.guard = none) (mo xo : Operand) (c : Bool) (hop : o.op = Op.lookup t mo xo c)
    (z : Value) (hz : (zeroValue el).run P w = .ok z w) (b : Nat) (m : List (κ × β)) (hm : a.eval mo = .map (some b)) (h : MapIs mk mv w b m) (x : κ) (hx : a.eval xo = mk x)
    (hK : wpListIn F fn P ops Q rest (a.put o.dst (if c then .tuple #[((alook m x).map mv).getD z, .bool (alook m x).isSome] else ((alook m x).map mv).getD z)) w) : wpListIn F fn P ops Q (o :: rest) a w := by
  refine wpListIn_plain hg fun K' hK' => ?_
  unfold Oper.wpIn
  refine ⟨?_, ?_⟩
  · simp [Oper.about, hop]
  · rw [Oper.semAt_plain F _ _ (by rw [hop]; intro c hc'; cases hc')]
    simp [execOp, hop, hm, hx, h.run_lookup K ht hz x c, Result.andThen]
    exact hK' _ _ hK

/-- 'm[x] = u' at the operation, within a fence. -/
theorem wpListIn_mapset {F : Fence} {fn : Nat} {w : World} {ops : Array Oper} {rest : List Oper} {o : Oper} {a : Act} {Q : Exit → Act → World → Prop} {t el : TypeId}
    (K : KeyOk P k mk) (ht : P.underlying t = some (.map k el)) (hg : o.guard = none) (mo xo vo : Operand) (hop : o.op = Op.mapUpdate t mo xo vo ∨ o.op = Op.insert t mo xo vo)
    (b : Nat) (m : List (κ × β)) (hm : a.eval mo = .map (some b)) (h : MapIs mk mv w b m) (x : κ) (hx : a.eval xo = mk x) (u : β) (hu : a.eval vo = mv u)
    (hK : ∀ w', MapIs mk mv w' b (aset m x u) → w.grownBy w' (some b) → wpListIn F fn P ops Q rest (a.put o.dst undef) w') : wpListIn F fn P ops Q (o :: rest) a w := by
  refine wpListIn_plain hg fun K' hK' => ?_
  obtain ⟨w', hrun, r1, r2⟩ := h.run_update K ht x u
  unfold Oper.wpIn
  rcases hop with hop | hop
  · refine ⟨?_, ?_⟩
    · simp [Oper.about, hop]
    · rw [Oper.semAt_plain F _ _ (by rw [hop]; intro c hc'; cases hc')]
      simp [execOp, hop, hm, hx, hu, hrun, Result.andThen]
      exact hK' _ _ (hK w' r1 r2)
  · refine ⟨?_, ?_⟩
    · simp [Oper.about, hop]
    · rw [Oper.semAt_plain F _ _ (by rw [hop]; intro c hc'; cases hc')]
      simp [execOp, hop, hm, hx, hu, hrun, Result.andThen]
      exact hK' _ _ (hK w' r1 r2)
end

/-- What lay below n₀ lies on; each cell of the types S lies on. -/
def KpT (n₀ : Nat) (S : TypeId → Bool) (W W' : World) : Prop := Below n₀ W W' ∧ W.heap.size ≤ W'.heap.size ∧ ∀ (k : Nat) (cs : Array Value) (T : TypeId) (fz : Nat × Nat), S T = true → W.heap[k]? = some (.cells cs T fz) → W'.heap[k]? = some (.cells cs T fz)
theorem KpT.trans {n₀ : Nat} {S : TypeId → Bool} {A B C : World} (h : KpT n₀ S A B) (k : KpT n₀ S B C) : KpT n₀ S A C := ⟨h.1.trans k.1, Nat.le_trans h.2.1 k.2.1, fun i cs T fz hs hi => k.2.2 i cs T fz hs (h.2.2 i cs T fz hs hi)⟩
theorem KpT.putObj {n₀ : Nat} {S : TypeId → Bool} {w : World} (hn : n₀ ≤ w.heap.size) (W : World) (l : Nat) (o o' : Obj) (hl : w.heap.size ≤ l) (h : W.heap[l]? = some o) (hc : o.isCells = false) (hw : o.isWalk = false) : KpT n₀ S W (W.putObj l o') :=
  ⟨belowK_b hn W l o o' hl h hc hw, by simp, fun k cs T fz _ hk => (World.putObj_heap_other (fun e => by subst e; rw [hk] at h; cases h; simp [Obj.isCells] at hc)).trans hk⟩
theorem KpT.alloc {n₀ : Nat} {S : TypeId → Bool} (W : World) (hn : n₀ ≤ W.heap.size) (o : Obj) : KpT n₀ S W (W.alloc o) :=
  ⟨(Below.refl _ _).alloc hn _, by simp, fun k _ _ _ _ hk => (Below.heap_alloc _ _ _ (Array.getElem?_eq_some_iff.1 hk).1).trans hk⟩
theorem KpT.refl (n₀ : Nat) (S : TypeId → Bool) (W : World) : KpT n₀ S W W := ⟨Below.refl _ _, Nat.le_refl _, fun _ _ _ _ _ h => h⟩
theorem KpT.less {n₀ n₁ : Nat} {S S' : TypeId → Bool} {A B : World} (h : KpT n₁ S A B) (hn : n₀ ≤ n₁) (hs : ∀ T, S' T = true → S T = true) (hA : n₁ ≤ A.heap.size) : KpT n₀ S' A B :=
  ⟨h.1.mono hn, h.2.1, fun k cs T fz hT hk => h.2.2 k cs T fz (hs T hT) hk⟩
/-- A step that turns one block beyond n₀ that is no cells of those types. -/
theorem KpT.grown {n₀ : Nat} {S : TypeId → Bool} {W W' : World} {row : Option Nat} (hg : W.grownBy W' row) (hn : n₀ ≤ W.heap.size) (hr : ∀ k, row = some k → n₀ ≤ k ∧ ∀ cs T fz, S T = true → W.heap[k]? ≠ some (.cells cs T fz)) : KpT n₀ S W W' :=
  ⟨(Below.refl _ _).grown hg hn (fun k e => (hr k e).1), hg.size, fun k cs T fz hT hk => (hg.block k (Array.getElem?_eq_some_iff.1 hk).1 (fun e => (hr k e.symm).2 cs T fz hT hk)).trans hk⟩
end Go.Proofs.Ytpgdpddmgljpmaa
