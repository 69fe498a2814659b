/-
 The document's add: the unit that grows.
-/
import Derived.Test.YthlingholhjcnaaJJ12
namespace Go.Proofs.Ythlingholhjcnaa
open Go.RowKit
variable {W w0 w w' : World} {u : UnR} {X : FV}
def noP (_ : Nat) : Prop := False
structure RI (W w0 : World) (u : UnR) (X : FV) (w : World) : Prop where
 jb : JB W.heap.size w0.heap.size X w
 b : Below W.heap.size W w
 tr : TrJ noP W.heap.size w0.heap.size w0 w
 mb : w.heap[w0.heap.size + 1]? = some (.cells u.cells.toArray 32 (0, 0))
 rb : w.heap[w0.heap.size + 1 + 1]? = some (.cells #[.slice none 0 0, .slice none 0 0, .slice none 0 0] 32 (0, 0))
theorem TrJ.no {P : Nat → Prop} {base ob : Nat} (h : TrJ P base ob w w') : TrJ noP base ob w w' := h.mono fun _ h => h.elim
theorem RI.step {X' : FV} {P : Nat → Prop} (h : RI W w0 u X w) (hj : JB W.heap.size w0.heap.size X' w') (ht : TrJ P W.heap.size w0.heap.size w w') : RI W w0 u X' w' :=
 ⟨hj, h.b.trans ht.t.1, h.tr.trans ht.no, ht.box (by omega) h.mb rfl, ht.box (by omega) h.rb rfl⟩
theorem RI.below (h : RI W w0 u X w) (hb : Below w.heap.size w w') : RI W w0 u X w' := h.step (P := noP) (h.jb.below hb) (TrJ.below hb h.jb.hz)
theorem RI.ints (h : RI W w0 u X w) (ht : TrJ isPI W.heap.size w0.heap.size w w') : RI W w0 u X w' := h.step (h.jb.lies (ht.t.2.mono fun _ h => isJ_PI h)) ht
theorem RI.start {nv : Value} (h : FIs w0 W.heap.size X) (hz : W.heap.size ≤ w0.heap.size) (hb : Below W.heap.size W w0) (hfv : X.fv = .slice none 0 0) (hfs : X.fs = []) (hw : w = ((w0.alloc (.cells #[X.pv, X.mv, X.gv] 32)).alloc (.cells u.cells.toArray 32)).alloc (.cells #[.slice none 0 0, .slice none 0 0, .slice none 0 0] 32)) : RI W w0 u X w := by
 have b1 : Below w0.heap.size w0 w := by rw [hw]; exact (((Below.refl _ _).alloc (Nat.le_refl _) _).alloc (by simp) _).alloc (by simp <;> omega) _
 have g1 : w.heap[w0.heap.size]? = some (.cells #[X.pv, X.mv, X.gv] 32 (0, 0)) := by rw [hw]; exact (Below.heap_alloc _ _ _ (by simp <;> omega)).trans ((Below.heap_alloc _ _ _ (by simp)).trans (heap_alloc_new _ _))
 have g2 : w.heap[w0.heap.size + 1]? = some (.cells u.cells.toArray 32 (0, 0)) := by
  rw [hw]; exact (Below.heap_alloc _ _ _ (by simp <;> omega)).trans (by have := heap_alloc_new (w0.alloc (.cells #[X.pv, X.mv, X.gv] 32)) (.cells u.cells.toArray 32); rw [World.size_alloc] at this; exact this)
 have g3 : w.heap[w0.heap.size + 1 + 1]? = some (.cells #[.slice none 0 0, .slice none 0 0, .slice none 0 0] 32 (0, 0)) := by
  rw [hw]; exact by have := heap_alloc_new ((w0.alloc (.cells #[X.pv, X.mv, X.gv] 32)).alloc (.cells u.cells.toArray 32)) (.cells #[.slice none 0 0, .slice none 0 0, .slice none 0 0] 32); rw [World.size_alloc, World.size_alloc] at this; exact this
 exact ⟨⟨g1, h.lies (Lies.below _ b1 hz), hz, hfv, hfs⟩, hb.trans (b1.mono hz), TrJ.below b1 hz, g2, g3⟩
theorem PcOk.up {base : Nat} {x : PcR} (h : PcOk w 0 x) : PcOk w base x := ⟨h.op, fun a ha => (h.opl a ha).imp (fun h => absurd h (Nat.not_lt_zero _)) id, h.b, fun a ha => (h.bl a ha).imp (fun h => absurd h (Nat.not_lt_zero _)) id⟩
structure PJR (W w0 : World) (S : FP) (n : Nat) (u : UnR) (j : Nat) (pv fv : Value) (X : FV) (PL FL : List Nat) (w : World) : Prop where
 ri : RI W w0 u X w
 pl : (X.pl, PL, FL) = joinParts (S, [], []) ((u.parts.l.take j).map PtR.pl)
 sm : Sm X (n + ptCost (u.parts.l.take j))
 ax : AX W.heap.size w pv fv PL FL
structure MJR (W w0 : World) (X1 : FV) (PL FL : List Nat) (l : List Mk) (n : Nat) (u : UnR) (m : Nat) (pv fv : Value) (X : FV) (w : World) : Prop where
 ri : RI W w0 u X w
 ps : X.ps = X1.ps
 ms : X.ms = X1.ms ++ (l.take m).map (moveM PL FL)
 gs : X.gs = X1.gs
 sm : Sm X (n + m)
 ax : AX W.heap.size w pv fv PL FL
theorem MJR.fin {X1 : FV} {PL FL : List Nat} {l : List Mk} {n m : Nat} {pv fv : Value} {wm wd : World} (h : MJR W w0 X1 PL FL l n u m pv fv X wm) (hb : Below wm.heap.size wm wd) {x x' : Mk} (hl : l.take (m + 1) = l.take m ++ [x]) (hx : x' = moveM PL FL x)
  (o : Obj) (w5 : World) (v5 : Value) (ho : w5.ownsRow W.heap.size 81 9 v5 (X.ms.length + 1) (X.ms.flatMap Mk.cells ++ x'.cells)) (hg : (wd.alloc o).grownBy w5 X.mv.ownBlock) :
  (∃ X5, MJR W w0 X1 PL FL l n u (m + 1) pv fv X5 (w5.setCell ⟨w0.heap.size, 1, none⟩ v5)) ∧ w5.heap[w0.heap.size]? = some (.cells #[X.pv, X.mv, X.gv] 32 (0, 0)) := by
 have hd := h.ri.below hb
 have hA := hd.below (alloc_below wd o)
 obtain ⟨hj5, ht5⟩ := hA.jb.addMark x' ho hg
 have ht : TrJ isPJ W.heap.size w0.heap.size wm (w5.setCell ⟨w0.heap.size, 1, none⟩ v5) := (TrJ.below (hb.trans ((alloc_below wd o).mono hb.size)) h.ri.jb.hz).trans ht5
 refine ⟨⟨_, hA.step hj5 ht5, h.ps, ?_, h.gs, ?_, h.ax.tr ht.j0⟩, hA.jb.app hg (fun g e => own_tag hA.jb.is.marks e) (by decide)⟩
 ·show X.ms ++ [x'] = _
  rw [hl, List.map_append, List.map_cons, List.map_nil, ← List.append_assoc, ← h.ms, hx]
 ·have q := h.sm
  refine ⟨by have := q.ps; show X.ps.length ≤ _; omega, by have := q.ms; show (X.ms ++ [x']).length ≤ _; rw [List.length_append]; simp; omega, by have := q.gs; show X.gs.length ≤ _; omega, by have := q.fs; show X.fs.length ≤ _; omega, fun y hy => by have := q.pcs y hy; omega⟩
theorem mbx_setR {bx : Nat} {x : Mk} (h : BxM bx x w) (a b : Int) : BxM bx { x with part := a, piece := b } ((w.setCell ⟨bx, 4, none⟩ (.int .i64 b)).setCell ⟨bx, 3, none⟩ (.int .i64 a)) := by
 have h1 : (w.setCell ⟨bx, 4, none⟩ (.int .i64 b)).heap[bx]? = some (.cells (Mk.cells { x with piece := b }).toArray 81 (0, 0)) := heap_setCell_same _ _ 4 _ _ _ h
 exact heap_setCell_same _ _ 3 _ _ _ h1
theorem RI.newPart (h : RI W w0 u X w) {y : PtR} (hy : y.pieces = ⟨none, 0, []⟩) (o : Obj) {w8 : World} {v' : Value} (hg8 : (w.alloc o).grownBy w8 X.pv.ownBlock) (ho8 : w8.ownsRow W.heap.size 50 4 v' (X.ps.length + 1) (X.ps.flatMap PtR.cells ++ y.cells)) :
  RI W w0 u { X with pv := v', ps := X.ps ++ [y] } (w8.setCell ⟨w0.heap.size, 0, none⟩ v') ∧ TrJ isPJ W.heap.size w0.heap.size w (w8.setCell ⟨w0.heap.size, 0, none⟩ v') ∧ w8.heap[w0.heap.size]? = some (.cells #[X.pv, X.mv, X.gv] 32 (0, 0)) := by
 have hA := h.below (alloc_below w o)
 obtain ⟨hj8, ht8⟩ := hA.jb.addPart y hy ho8 hg8
 exact ⟨hA.step hj8 ht8, (TrJ.below (alloc_below w o) h.jb.hz).trans ht8, hA.jb.app hg8 (fun g e => own_tag hA.jb.is.parts e) (by decide)⟩
theorem RI.pcsMore {X2 : FV} (h : RI W w0 u X2 w) (hb : Below w.heap.size w w') {i : Nat} {z : PtR} (hz : X2.ps[i]? = some z) {g c : Nat} (hpv : X2.pv = .slice (some ⟨g, 0, none⟩) X2.ps.length c) {xs : List PcR} {l : List PcR} (hx : xs.map PcR.pl = l.map PcR.pl) (hok : ∀ x ∈ xs, PcOk w' 0 x)
  {w5 : World} {p5 : Option Addr} {c5 : Nat} (ho : w5.ownsRow W.heap.size 64 11 (.slice p5 (z.pieces.l.length + l.length) c5) (z.pieces.l.length + l.length) (z.pieces.l.flatMap PcR.cells ++ xs.flatMap PcR.cells)) (hg : w'.grownBy w5 z.pieces.val.ownBlock) (hs : Stayed w' z.pieces.val (.slice p5 (z.pieces.l.length + l.length) c5)) {n : Nat} (hsm : Sm X2 n) :
  ∃ X5, RI W w0 u X5 (w5.setCell ⟨g, i * 4 + 3, none⟩ (.slice p5 (z.pieces.l.length + l.length) c5)) ∧ TrJ isPJ W.heap.size w0.heap.size w (w5.setCell ⟨g, i * 4 + 3, none⟩ (.slice p5 (z.pieces.l.length + l.length) c5)) ∧ X5.pl = X2.pl.putAll i (l.map PcR.pl) ∧ Sm X5 (n + l.length) := by
 have hA := h.below hb
 have hxl : xs.length = l.length := by have := congrArg List.length hx; simpa using this
 rw [← hxl] at ho hs ⊢
 obtain ⟨hj5, ht5⟩ := hA.jb.addPieces hz hpv (p' := p5) (c' := c5) xs ho hg hs (fun q hq => (hok q hq).up)
 refine ⟨_, hA.step hj5 ht5, (TrJ.below hb h.jb.hz).trans ht5, ?_, ?_⟩
 ·unfold FP.putAll FV.pl
  dsimp only
  rw [map_setPcs hz p5 c5 xs (appPcs (l.map PcR.pl)) (by rw [← hx]; rfl)]
 ·have q := hsm
  refine ⟨by show (X2.ps.set i _).length ≤ _; rw [List.length_set]; have := q.ps; omega, by have := q.ms; show X2.ms.length ≤ _; omega, by have := q.gs; show X2.gs.length ≤ _; omega, by have := q.fs; show X2.fs.length ≤ _; omega, fun y hy => ?_⟩
  rcases List.mem_or_eq_of_mem_set hy with h6 | h6
  ·have := q.pcs y h6; omega
  ·rw [h6]
   have := q.pcs z (List.mem_of_getElem? hz)
   show (z.pieces.l ++ xs).length ≤ _
   rw [List.length_append]; omega
def AddT (W w0 : World) (S : FP) (n : Nat) (e : Ending) (w' : World) : Prop :=
 ∃ X : FV, e = .returned (.agg #[X.pv, X.mv, X.gv]) ∧ FIs w' W.heap.size X ∧ X.pl = S ∧ Sm X n ∧ X.fv = .slice none 0 0 ∧ X.fs = [] ∧ Below W.heap.size W w' ∧ TrJ noP W.heap.size w0.heap.size w0 w'
end Go.Proofs.Ythlingholhjcnaa
