/-
 frag.Join: units one behind the other: the code.
-/
import Derived.Test.YthlingholhjcnaaJJ10
namespace Go.Proofs.Ythlingholhjcnaa
open Go.RowKit
variable {W W' w w' : World} {base ob : Nat} {X : FV}
theorem EInt : Elem Try.prog 91 3 1 8 (.int .i64 0) := Elem.mk' Try.underlying91 (by kernel_rfl) rfl (by decide)
structure AX (base : Nat) (w : World) (pv fv : Value) (PL FL : List Nat) : Prop where
 p : w.ownsRow base 3 1 pv PL.length (PL.map natV)
 f : w.ownsRow base 3 1 fv FL.length (FL.map natV)
 ap : Apart pv fv
theorem AX.lies {pv fv : Value} {PL FL : List Nat} (h : AX base w pv fv PL FL) (hl : Lies base (fun x => x = 3 + 1) w w') : AX base w' pv fv PL FL := ⟨hl.own h.p rfl, hl.own h.f rfl, h.ap⟩
theorem AX.tr {pv fv : Value} {PL FL : List Nat} (h : AX base w pv fv PL FL) (hl : TrJ isPJ0 base ob w w') : AX base w' pv fv PL FL := h.lies (hl.t.2.mono (by rintro x rfl; exact ⟨by unfold isPJ; decide, by decide⟩))
theorem AX.nil (base : Nat) (w : World) : AX base w (.slice none 0 0) (.slice none 0 0) [] [] := ⟨World.ownsRow_nil _ _ _ _, World.ownsRow_nil _ _ _ _, Apart.nil _⟩
theorem nat_ones (l : List Nat) : ∀ u ∈ l.map natV, u.oneCell' = true := fun u hu => by
 obtain ⟨n, -, rfl⟩ := List.mem_map.1 hu
 rfl
structure JIs (W : World) (X : FV) (w : World) : Prop where
 jb : JB W.heap.size (W.heap.size + 1) X w
 mp : ∃ am, MapIs Value.string natV w (W.heap.size + 1 + 1) am ∧ ∀ k, alook am k = idxO (X.ps.map PtR.name) k
 res : w.heap[W.heap.size]? = some (.cells #[.slice none 0 0, .slice none 0 0, .slice none 0 0] 32 (0, 0))
 b : Below W.heap.size W w
theorem MapIs.same {κ β : Type} {mk : κ → Value} {mv : β → Value} {b : Nat} {m : List (κ × β)} (h : MapIs mk mv w b m) (hb : w'.heap[b]? = w.heap[b]?) : MapIs mk mv w' b m := by
 obtain ⟨es, c, e1, e2⟩ := h
 exact ⟨es, c, hb.trans e1, e2⟩
theorem JIs.step {X' : FV} {P : Nat → Prop} (h : JIs W X w) (hj : JB W.heap.size (W.heap.size + 1) X' w') (ht : TrJ P W.heap.size (W.heap.size + 1) w w') (hP : P 0) (hn : X'.ps.map PtR.name = X.ps.map PtR.name) : JIs W X' w' := by
 obtain ⟨am, h1, h2⟩ := h.mp
 refine ⟨hj, ⟨am, MapIs.same h1 (ht.t.2.tag _ 0 (map_tag h1) hP), by rw [hn]; exact h2⟩, ?_, h.b.trans ht.t.1⟩
 exact (ht.u _ (by omega) (tag_row h.res)).trans h.res
theorem JIs.below (h : JIs W X w) (hb : Below w.heap.size w w') : JIs W X w' := h.step (P := isPJ) (h.jb.below hb) (TrJ.below hb h.jb.hz) (by unfold isPJ; decide) rfl
theorem JIs.newPart (h : JIs W X w) {am : List (ByteArray × Nat)} (ham : ∀ k, alook am k = idxO (X.ps.map PtR.name) k) {y : PtR} (hy : y.pieces = ⟨none, 0, []⟩) (hi : idxO (X.ps.map PtR.name) y.name = none) {w1 : World}
  (hm : MapIs Value.string natV w1 (W.heap.size + 1 + 1) (aset am y.name X.ps.length)) (hg1 : w.grownBy w1 (some (W.heap.size + 1 + 1))) :
  JB W.heap.size (W.heap.size + 1) X w1 ∧ TrJ isPJ0 W.heap.size (W.heap.size + 1) w w1 ∧ ∀ (o : Obj) (w8 : World) (v' : Value), (w1.alloc o).grownBy w8 X.pv.ownBlock → w8.ownsRow W.heap.size 50 4 v' (X.ps.length + 1) (X.ps.flatMap PtR.cells ++ y.cells) →
   JIs W { X with pv := v', ps := X.ps ++ [y] } (w8.setCell ⟨W.heap.size + 1, 0, none⟩ v') ∧ TrJ isPJ0 W.heap.size (W.heap.size + 1) w (w8.setCell ⟨W.heap.size + 1, 0, none⟩ v') ∧ w8.heap[W.heap.size + 1]? = some (.cells #[X.pv, X.mv, X.gv] 32 (0, 0)) := by
 obtain ⟨am0, hm0, _⟩ := h.mp
 have htm := map_tag hm0
 have hr : ∀ g, some (W.heap.size + 1 + 1) = some g → tagAt w g = some 0 ∧ W.heap.size ≤ g := fun g e => by cases e; exact ⟨htm, by omega⟩
 have hl : Lies W.heap.size (fun y => y ≠ 0) w w1 := Lies.grown hg1 hr (fun hn => hn rfl) h.jb.hz
 have ht1 : TrJ isPJ0 W.heap.size (W.heap.size + 1) w w1 := TrJ.grown hg1 hr (fun hn => hn.2 rfl) (by decide) h.jb.hz
 have hj1 := h.jb.lies (hl.mono (by rintro y (rfl | (rfl | rfl | rfl | rfl | rfl) | (rfl | rfl)) <;> decide))
 refine ⟨hj1, ht1, fun o w8 v' hg8 ho8 => ?_⟩
 have hA := hj1.below (alloc_below w1 o)
 have htA : TrJ isPJ W.heap.size (W.heap.size + 1) w1 (w1.alloc o) := TrJ.below (alloc_below w1 o) hj1.hz
 obtain ⟨hj8, ht8⟩ := hA.addPart y hy ho8 hg8
 have ht := ht1.trans (htA.trans ht8).j0
 refine ⟨⟨hj8, ⟨_, MapIs.same hm ((htA.trans ht8).t.2.tag _ 0 (map_tag hm) (by unfold isPJ; decide)), fun k => ?_⟩, (ht.u _ (by omega) (tag_row h.res)).trans h.res, h.b.trans ht.t.1⟩, ht, hA.app hg8 (fun g e => own_tag hA.is.parts e) (by decide)⟩
 rw [List.map_append, List.map_cons, List.map_nil, idx_app k hi, alook_set, List.length_map]
 by_cases e : y.name = k
 ·subst e; simp
 ·rw [if_neg e, if_neg (fun e2 => e e2.symm), ham]
theorem JIs.start (W : World) : ∃ W3, W3 = ((W.alloc (.cells #[.slice none 0 0, .slice none 0 0, .slice none 0 0] 32)).alloc (.cells #[.slice none 0 0, .slice none 0 0, .slice none 0 0] 32)).alloc (.map #[] 0) ∧ JIs W nil0 W3 := by
 refine ⟨_, rfl, ⟨?_, FIs.nil _ _, Nat.le_succ _, rfl, rfl⟩, ⟨[], ?_, fun k => by rfl⟩, ?_, ?_⟩
 ·exact (Below.heap_alloc _ _ _ (by simp)).trans (heap_newAt _ _ _ (by simp))
 ·have := MapIs.made Value.string natV ((W.alloc (.cells #[.slice none 0 0, .slice none 0 0, .slice none 0 0] 32)).alloc (.cells #[.slice none 0 0, .slice none 0 0, .slice none 0 0] 32))
  rw [World.size_alloc, World.size_alloc] at this
  exact this
 ·exact (Below.heap_alloc _ _ _ (by simp <;> omega)).trans ((Below.heap_alloc _ _ _ (by simp)).trans (heap_alloc_new _ _))
 ·exact (((Below.refl _ _).alloc (Nat.le_refl _) _).alloc (by simp) _).alloc (by simp <;> omega) _
def isPI (x : Nat) : Prop := x ≠ 3 + 1
structure SameAt (a b : Nat) (w0 w : World) : Prop where
 sz : w0.heap.size ≤ w.heap.size
 a : w.heap[a]? = w0.heap[a]?
 b : w.heap[b]? = w0.heap[b]?
theorem SameAt.alloc {a b : Nat} {w0 w : World} (h : SameAt a b w0 w) (ha : a < w0.heap.size) (hb : b < w0.heap.size) (o : Obj) : SameAt a b w0 (w.alloc o) :=
 ⟨by have := h.sz; simp; omega, (Below.heap_alloc _ _ _ (by have := h.sz; omega)).trans h.a, (Below.heap_alloc _ _ _ (by have := h.sz; omega)).trans h.b⟩
theorem SameAt.grown {a b : Nat} {w0 w w' : World} (h : SameAt a b w0 w) (ha : a < w0.heap.size) (hb : b < w0.heap.size) {v : Value} (hg : w.grownBy w' v.ownBlock) (hv : ∀ g, v.ownBlock = some g → g ≠ a ∧ g ≠ b) : SameAt a b w0 w' :=
 ⟨Nat.le_trans h.sz hg.size, (hg.block a (by have := h.sz; omega) (fun e => (hv a e.symm).1 rfl)).trans h.a, (hg.block b (by have := h.sz; omega) (fun e => (hv b e.symm).2 rfl)).trans h.b⟩
theorem Row.grownAt {b : Nat} {cs : List Value} {v : Value} {n0 : Nat} (h : Row w (some ⟨b, 0, none⟩) cs) (hg : w.grownBy w' v.ownBlock) (hv : ∀ g, v.ownBlock = some g → g < n0) (hb : n0 ≤ b) (hl : b < w.heap.size) : Row w' (some ⟨b, 0, none⟩) cs :=
 row_blk h (fun q e => by cases e; exact hg.block b hl (fun e2 => by have := hv b e2.symm; omega))
theorem two_app {wc wA wa wB wb : World} {pv fv p' f' : Value} {PL FL : List Nat} {i n : Nat} (hax : AX base wc pv fv PL FL) (hz : base ≤ wc.heap.size) (h1 : Below wc.heap.size wc wA) (hp' : wa.ownsRow base 3 1 p' (PL.length + 1) (PL.map natV ++ [natV i])) (hg1 : wA.grownBy wa pv.ownBlock) (hs1 : Stayed wA pv p') (h2 : Below wa.heap.size wa wB)
  (hf' : wb.ownsRow base 3 1 f' (FL.length + 1) (FL.map natV ++ [natV n])) (hg2 : wB.grownBy wb fv.ownBlock) (hs2 : Stayed wB fv f') : AX base wb p' f' (PL ++ [i]) (FL ++ [n]) ∧ TrJ isPI base ob wc wb := by
 have hA := hax.p
 have zA : base ≤ wA.heap.size := Nat.le_trans hz h1.size
 have za : base ≤ wa.heap.size := Nat.le_trans zA hg1.size
 have zB : base ≤ wB.heap.size := Nat.le_trans za h2.size
 have pA := own_below hax.p h1
 have fA := own_below hax.f h1
 have t1 : TrJ isPI base ob wc wA := TrJ.below h1 hz
 have t2 : TrJ isPI base ob wA wa := TrJ.grown hg1 (fun g e => ⟨own_tag pA e, own_ge pA g e⟩) (fun hn => hn rfl) (by decide) zA
 have t3 : TrJ isPI base ob wa wB := TrJ.below h2 za
 have fa : wa.ownsRow base 3 1 fv FL.length (FL.map natV) := own_kept fA hg1 hax.ap.symm
 have fB := own_below fa h2
 have t4 : TrJ isPI base ob wB wb := TrJ.grown hg2 (fun g e => ⟨own_tag fB e, own_ge fB g e⟩) (fun hn => hn rfl) (by decide) zB
 have ap1 : Apart p' fv := Apart.stayed hax.ap hs1 (own_lt fA)
 have pB := own_below hp' h2
 have ap2 : Apart f' p' := Apart.stayed ap1.symm hs2 (own_lt pB)
 refine ⟨⟨?_, ?_, ap2.symm⟩, ((t1.trans t2).trans t3).trans t4⟩
 ·rw [List.length_append, List.map_append]; exact own_kept pB hg2 ap1
 ·rw [List.length_append, List.map_append]; exact hf'
theorem isJ_PI {x : Nat} (h : isJ x) : isPI x := by rcases h with rfl | (rfl | rfl | rfl | rfl | rfl) | (rfl | rfl) <;> (unfold isPI; decide)
theorem JIs.ints (h : JIs W X w) (ht : TrJ isPI W.heap.size (W.heap.size + 1) w w') : JIs W X w' := h.step (h.jb.lies (ht.t.2.mono fun _ h => isJ_PI h)) ht (by unfold isPI; decide) rfl
theorem modify_app (l : List Pt) (i : Nat) (a b : List Pc) : (l.modify i (appPcs a)).modify i (appPcs b) = l.modify i (appPcs (a ++ b)) := by
 apply List.ext_getElem?
 intro j
 rw [List.getElem?_modify, List.getElem?_modify, List.getElem?_modify]
 by_cases e : i = j
 ·simp only [if_pos e]; cases l[j]? <;> simp [appPcs]
 ·simp [e]
theorem modify_nil (l : List Pt) (i : Nat) : l.modify i (appPcs []) = l := by
 apply List.ext_getElem?
 intro j
 rw [List.getElem?_modify]
 by_cases e : i = j
 ·simp only [if_pos e]; cases l[j]? <;> simp [appPcs]
 ·simp [e]
structure XJI (W : World) (X2 : FV) (i : Nat) (l : List PcR) (n m : Nat) (X : FV) (w0 w : World) : Prop where
 ji : JIs W X w
 ps : X.ps.map PtR.pl = (X2.ps.map PtR.pl).modify i (appPcs ((l.take m).map PcR.pl))
 ms : X.ms = X2.ms
 gs : X.gs = X2.gs
 sm : Sm X (n + m)
 tr : TrJ isPJ W.heap.size (W.heap.size + 1) w0 w
theorem XJI.at {X2 : FV} {i : Nat} {l : List PcR} {n m : Nat} {w0 : World} (h : XJI W X2 i l n m X w0 w) (hi : i < X2.ps.length) : ∃ z, X.ps[i]? = some z := by
 have h1 := congrArg List.length h.ps
 rw [List.length_map, List.length_modify, List.length_map] at h1
 exact ⟨_, List.getElem?_eq_getElem (by omega)⟩
theorem piece_box {bx : Nat} {x : PcR} {w0 wd w2 w3 : World} {lp bp : Option Addr} {lc bc : Nat} (hx : BxP bx x wd) (h0 : w0.heap.size ≤ bx) (hb : Below w0.heap.size w0 wd) (h2 : Below wd.heap.size wd w2) (hs2 : SlOk w2 Oc.cells 120 ⟨lp, lc, x.l.opers.l⟩) (ht2 : ∀ a, lp = some a → tagAt w2 a.block = some (72 + 1))
  (h3 : Below w2.heap.size w2 w3) (hs3 : SlOk w3 (fun n : Int => [Value.int .u8 n]) 1 ⟨bp, bc, x.b.l⟩) (ht3 : ∀ a, bp = some a → tagAt w3 a.block = some (5 + 1)) :
  ∃ x' : PcR, BxP bx x' (((w3.setCell ⟨bx, 3, none⟩ (.string x.l.name)).setCell ⟨bx, 4, none⟩ (.slice lp x.l.opers.l.length lc)).setCell ⟨bx, 9, none⟩ (.slice bp x.b.l.length bc)) ∧ PcOk (((w3.setCell ⟨bx, 3, none⟩ (.string x.l.name)).setCell ⟨bx, 4, none⟩ (.slice lp x.l.opers.l.length lc)).setCell ⟨bx, 9, none⟩ (.slice bp x.b.l.length bc)) base x' ∧ x'.pl = x.pl ∧
   Below w0.heap.size w0 (((w3.setCell ⟨bx, 3, none⟩ (.string x.l.name)).setCell ⟨bx, 4, none⟩ (.slice lp x.l.opers.l.length lc)).setCell ⟨bx, 9, none⟩ (.slice bp x.b.l.length bc)) := by
 have hx2 : BxP bx x w2 := (h2.block _ (Array.getElem?_eq_some_iff.1 hx).1).trans hx
 have hx3 : BxP bx x w3 := (h3.block _ (Array.getElem?_eq_some_iff.1 hx2).1).trans hx2
 have htx : tagAt w3 bx = some (64 + 1) := tag_row hx3
 have ht2' : ∀ a, lp = some a → tagAt w3 a.block = some (72 + 1) := fun a ha => tag_blk (ht2 a ha) (h3.block _ (tag_lt (ht2 a ha)))
 obtain ⟨wf, hwf⟩ : ∃ wf, wf = ((w3.setCell ⟨bx, 3, none⟩ (.string x.l.name)).setCell ⟨bx, 4, none⟩ (.slice lp x.l.opers.l.length lc)).setCell ⟨bx, 9, none⟩ (.slice bp x.b.l.length bc) := ⟨_, rfl⟩
 have hk : ∀ b, b ≠ bx → wf.heap[b]? = w3.heap[b]? := fun b hb => by rw [hwf]; exact (heap_setCell_other _ _ _ _ hb).trans ((heap_setCell_other _ _ _ _ hb).trans (heap_setCell_other _ _ _ _ hb))
 have h31 : (w3.setCell ⟨bx, 3, none⟩ (.string x.l.name)).heap[bx]? = some (.cells x.cells.toArray 64 (0, 0)) := heap_setCell_same _ _ 3 _ _ _ hx3
 have h32 : ((w3.setCell ⟨bx, 3, none⟩ (.string x.l.name)).setCell ⟨bx, 4, none⟩ (.slice lp x.l.opers.l.length lc)).heap[bx]? = some (.cells (PcR.cells ⟨x.kind, x.file, x.line, ⟨x.l.name, ⟨lp, lc, x.l.opers.l⟩⟩, x.v, x.size, x.b, x.align⟩).toArray 64 (0, 0)) := heap_setCell_same _ _ 4 _ _ _ h31
 rw [← hwf]
 refine ⟨⟨x.kind, x.file, x.line, ⟨x.l.name, ⟨lp, lc, x.l.opers.l⟩⟩, x.v, x.size, ⟨bp, bc, x.b.l⟩, x.align⟩, ?_, ⟨?_, ?_, ?_, ?_⟩, rfl, ?_⟩
 ·rw [hwf]; exact heap_setCell_same _ _ 9 _ _ _ h32
 ·have q := hs2.below h3
  exact ⟨row_blk q.row (fun a ha => hk _ (tag_ne (ht2' a ha) htx (by decide))), q.len, q.cap, q.nil⟩
 ·exact fun a ha => .inr (tag_blk (ht2' a ha) (hk _ (tag_ne (ht2' a ha) htx (by decide))))
 ·exact ⟨row_blk hs3.row (fun a ha => hk _ (tag_ne (ht3 a ha) htx (by decide))), hs3.len, hs3.cap, hs3.nil⟩
 ·exact fun a ha => .inr (tag_blk (ht3 a ha) (hk _ (tag_ne (ht3 a ha) htx (by decide))))
 ·rw [hwf]
  exact Below.setCell (p := ⟨bx, 9, none⟩) (Below.setCell (p := ⟨bx, 4, none⟩) (Below.setCell (p := ⟨bx, 3, none⟩) ((hb.trans (h2.mono hb.size)).trans (h3.mono (Nat.le_trans hb.size h2.size))) h0 _) h0 _) h0 _
theorem XJI.fin {X2 : FV} {i : Nat} {l : List PcR} {n m : Nat} {w0 wq wd : World} (h : XJI W X2 i l n m X w0 wq) (hb : Below wq.heap.size wq wd) {z : PtR} (hz : X.ps[i]? = some z) {g c : Nat} (hpv : X.pv = .slice (some ⟨g, 0, none⟩) X.ps.length c) {x x' : PcR} (hl : l.take (m + 1) = l.take m ++ [x]) (hx : x'.pl = x.pl) (hok : PcOk wd W.heap.size x')
  (o : Obj) (w5 : World) (p5 : Option Addr) (c5 : Nat) (ho : w5.ownsRow W.heap.size 64 11 (.slice p5 (z.pieces.l.length + 1) c5) (z.pieces.l.length + 1) (z.pieces.l.flatMap PcR.cells ++ x'.cells)) (hg : (wd.alloc o).grownBy w5 z.pieces.val.ownBlock) (hs : Stayed (wd.alloc o) z.pieces.val (.slice p5 (z.pieces.l.length + 1) c5)) :
  ∃ X5, XJI W X2 i l n (m + 1) X5 w0 (w5.setCell ⟨g, i * 4 + 3, none⟩ (.slice p5 (z.pieces.l.length + 1) c5)) := by
 have hd := h.ji.below hb
 have hA := hd.below (alloc_below wd o)
 have e1 : [x'].flatMap PcR.cells = x'.cells := by simp
 obtain ⟨hj5, ht5⟩ := hA.jb.addPieces hz hpv (p' := p5) (c' := c5) [x'] (by rw [e1]; exact ho) hg hs (fun q hq => by rw [List.mem_singleton.1 hq]; exact hok.lies (Lies.below _ (alloc_below wd o) hd.jb.hz))
 refine ⟨_, hA.step hj5 ht5 (by unfold isPJ; decide) (names_setP hz _), ?_, h.ms, h.gs, ?_, (h.tr.trans (TrJ.below (hb.trans ((alloc_below wd o).mono hb.size)) h.ji.jb.hz)).trans ht5⟩
 ·rw [hl, List.map_append, List.map_cons, List.map_nil, ← modify_app, ← h.ps]
  exact map_setPcs hz p5 c5 [x'] (appPcs [x.pl]) (by rw [← hx]; rfl)
 ·have q := h.sm
  refine ⟨by show (X.ps.set i _).length ≤ _; rw [List.length_set]; have := q.ps; omega, by have := q.ms; show X.ms.length ≤ _; omega, by have := q.gs; show X.gs.length ≤ _; omega, by have := q.fs; show X.fs.length ≤ _; omega, fun y hy => ?_⟩
  rcases List.mem_or_eq_of_mem_set hy with h6 | h6
  ·have := q.pcs y h6; omega
  ·rw [h6]
   have := q.pcs z (List.mem_of_getElem? hz)
   show (z.pieces.l ++ [x']).length ≤ _
   rw [List.length_append]; simp; omega
structure MJI (W : World) (X1 : FV) (PL FL : List Nat) (l : List Mk) (n : Nat) (ub : Nat) (u : UnR) (m : Nat) (pv fv : Value) (X : FV) (w : World) : Prop where
 ji : JIs W X w
 ps : X.ps = X1.ps
 ms : X.ms = X1.ms ++ (l.take m).map (moveM PL FL)
 gs : X.gs = X1.gs
 sm : Sm X (n + m)
 ax : AX W.heap.size w pv fv PL FL
 box : w.heap[ub]? = some (.cells u.cells.toArray 32 (0, 0))
theorem mbx_set {bx : Nat} {x : Mk} (h : BxM bx x W) (a b : Int) : BxM bx { x with part := a, piece := b } ((W.setCell ⟨bx, 3, none⟩ (.int .i64 a)).setCell ⟨bx, 4, none⟩ (.int .i64 b)) := by
 have h1 : (W.setCell ⟨bx, 3, none⟩ (.int .i64 a)).heap[bx]? = some (.cells (Mk.cells { x with part := a }).toArray 81 (0, 0)) := heap_setCell_same _ _ 3 _ _ _ h
 exact heap_setCell_same _ _ 4 _ _ _ h1
theorem MJI.fin {X1 : FV} {PL FL : List Nat} {l : List Mk} {n ub m : Nat} {u : UnR} {pv fv : Value} {wm wd : World} (h : MJI W X1 PL FL l n ub u m pv fv X wm) (hub : ub ≠ W.heap.size + 1) (hb : Below wm.heap.size wm wd) {x x' : Mk} (hl : l.take (m + 1) = l.take m ++ [x]) (hx : x' = moveM PL FL x)
  (o : Obj) (w5 : World) (v5 : Value) (ho : w5.ownsRow W.heap.size 81 9 v5 (X.ms.length + 1) (X.ms.flatMap Mk.cells ++ x'.cells)) (hg : (wd.alloc o).grownBy w5 X.mv.ownBlock) :
  (∃ X5, MJI W X1 PL FL l n ub u (m + 1) pv fv X5 (w5.setCell ⟨W.heap.size + 1, 1, none⟩ v5)) ∧ w5.heap[W.heap.size + 1]? = some (.cells #[X.pv, X.mv, X.gv] 32 (0, 0)) := by
 have hd := h.ji.below hb
 have hA := hd.below (alloc_below wd o)
 obtain ⟨hj5, ht5⟩ := hA.jb.addMark x' ho hg
 have ht : TrJ isPJ W.heap.size (W.heap.size + 1) wm (w5.setCell ⟨W.heap.size + 1, 1, none⟩ v5) := (TrJ.below (hb.trans ((alloc_below wd o).mono hb.size)) h.ji.jb.hz).trans ht5
 refine ⟨⟨_, hA.step hj5 ht5 (by unfold isPJ; decide) rfl, h.ps, ?_, h.gs, ?_, h.ax.tr ht.j0, ht.box hub h.box rfl⟩, hA.jb.app hg (fun g e => own_tag hA.jb.is.marks e) (by decide)⟩
 ·show X.ms ++ [x'] = _
  rw [hl, List.map_append, List.map_cons, List.map_nil, ← List.append_assoc, ← h.ms, hx]
 ·have q := h.sm
  refine ⟨by have := q.ps; show X.ps.length ≤ _; omega, by have := q.ms; show (X.ms ++ [x']).length ≤ _; rw [List.length_append]; simp; omega, by have := q.gs; show X.gs.length ≤ _; omega, by have := q.fs; show X.fs.length ≤ _; omega, fun y hy => by have := q.pcs y hy; omega⟩
theorem unr_cells {b o : Nat} {ys : List UnR} (h : Row w (some ⟨b, o, none⟩) (ys.flatMap UnR.cells)) (k : Nat) (hk : k < ys.length) :
  w.cell? ⟨b, o + k * 3, none⟩ = some (ys[k].parts.val) ∧ w.cell? ⟨b, o + k * 3 + 1, none⟩ = some (ys[k].marks.val) ∧ w.cell? ⟨b, o + k * 3 + 2, none⟩ = some (ys[k].globals.val) :=
 ⟨row_cells UnR.cells 3 (fun _ => rfl) h k hk 0 (by decide), row_cells UnR.cells 3 (fun _ => rfl) h k hk 1 (by decide), row_cells UnR.cells 3 (fun _ => rfl) h k hk 2 (by decide)⟩
theorem ptCost_ge : ∀ l : List PtR, l.length ≤ ptCost l
 | [] => Nat.zero_le _
 | a :: l => by have := ptCost_ge l; unfold ptCost at this ⊢; simp; omega
theorem ptCost_take (l : List PtR) (k : Nat) (hk : k < l.length) : ptCost (l.take (k + 1)) = ptCost (l.take k) + (1 + l[k].pieces.l.length) := sum_take _ l k hk
theorem ptCost_le (l : List PtR) (k : Nat) : ptCost (l.take k) ≤ ptCost l := sum_le _ l k
structure PJI (W : World) (S : FP) (n : Nat) (ub : Nat) (u : UnR) (j : Nat) (pv fv : Value) (X : FV) (PL FL : List Nat) (w : World) : Prop where
 ji : JIs W X w
 pl : (X.pl, PL, FL) = joinParts (S, [], []) ((u.parts.l.take j).map PtR.pl)
 sm : Sm X (n + ptCost (u.parts.l.take j))
 ax : AX W.heap.size w pv fv PL FL
 box : w.heap[ub]? = some (.cells u.cells.toArray 32 (0, 0))
def JoinT (W : World) (S : FP) (n : Nat) (e : Ending) (w' : World) : Prop :=
 (∃ X : FV, e = .returned (.agg #[X.pv, X.mv, X.gv]) ∧ FIs w' W.heap.size X ∧ X.pl = S ∧ Sm X n ∧ X.fv = .slice none 0 0) ∧ Below W.heap.size W w'
set_option maxRecDepth 40000 in
set_option maxHeartbeats 8000000 in
theorem join_any (p : Option Addr) (c : Nat) (l : List UnR) (W : World) (hrow : Row W p (l.flatMap UnR.cells)) (hin : ∀ u ∈ l, UnIn W u) (hlen : l.length ≤ 1000000) (hcost : unCost l ≤ 2000000) :
  Calls Try.prog 16 #[.slice p l.length c] W (JoinT W (joinP (l.map UnR.pl)) (unCost l)) := by
 obtain ⟨W3, hW3, h3⟩ := JIs.start W
 have HW3 := hid hW3
 have HJ3 := hid h3
 have HROW := hid hrow
 have HIN := hid hin
 have HCOST := hid hcost
 obtain ⟨N, hN⟩ : ∃ N, N = l.length := ⟨_, rfl⟩
 have HN := hid hN
 rw [← hN] at hlen ⊢
 have hmm := @run_makeMap Try.prog
 clear hW3 h3 hrow hin hcost hN
 go_enter Try.func16, Try.ntmps16
 go_upto_region 3 with (fail)
 rw [← HW3.out]
 clear hmm
 go_wp2_with (fail)
 go_loopw [20] (fun i wr => ∃ (k : Nat), k ≤ N ∧ i = .int .i64 k ∧ ∃ (X : FV), JIs W X wr ∧ X.pl = joinP ((l.take k).map UnR.pl) ∧ Sm X (unCost (l.take k))) (fun i _ => N - (intOf i).toNat)
 case atStart => exact ⟨0, Nat.zero_le _, rfl, nil0, HJ3.out, rfl, ⟨Nat.le_refl _, Nat.le_refl _, Nat.le_refl _, Nat.le_refl _, fun y hy => (by cases hy)⟩⟩
 case round =>
  rename World => wr
  obtain ⟨k, hk, rfl, X, hj, hp, hs⟩ := hrel
  have HJ := hid hj
  have HP := hid hp
  have HS := hid hs
  clear HJ3
  by_cases hlt : k < N
  ·have hkI : (k : Int) < N := by omega
   have hkl : k < l.length := by rw [← HN.out]; exact hlt
   have hrow := HROW.out.below hj.b
   obtain ⟨b, o, rfl, hbl, -⟩ := hrow.at (by rw [flat_len UnR.cells 3 (fun _ => rfl)]; omega)
   obtain ⟨u0, u1, u2⟩ := unr_cells hrow k hkl
   have HUI := hid (HIN.out _ (List.getElem_mem hkl))
   have HCO := hid (sum_take UnR.cost l k hkl)
   have HCL := hid (sum_le UnR.cost l (k + 1))
   have HST : Hid (joinP ((l.take (k + 1)).map UnR.pl) = (joinP ((l.take k).map UnR.pl)).joinUnit l[k].pl) := by
    unfold Hid joinP
    rw [List.take_add_one, List.getElem?_eq_getElem hkl, Option.toList_some, List.map_append, List.foldl_append]; rfl
   generalize l[k] = u at *
   unfold Sl.val at u0 u1 u2
   obtain ⟨W5, hW5⟩ : ∃ W5, W5 = wr.alloc (.cells #[.slice u.parts.p u.parts.l.length u.parts.c, .slice u.marks.p u.marks.l.length u.marks.c, .slice u.globals.p u.globals.l.length u.globals.c] 32) := ⟨_, rfl⟩
   have HW5 := hid hW5
   have hb5 : Below wr.heap.size wr W5 := by rw [hW5]; exact alloc_below _ _
   have HX5 : Hid (W5.heap[wr.heap.size]? = some (.cells u.cells.toArray 32 (0, 0))) := by rw [hW5]; exact heap_alloc_new _ _
   have HJ5 := hid (hj.below hb5)
   have HUB : Hid (W.heap.size + 1 + 1 < wr.heap.size) := by
    obtain ⟨am, h1, -⟩ := hj.mp
    exact tag_lt (map_tag h1)
   have HCU : Hid (unCost (l.take k) + u.cost ≤ 2000000) := by
    have h1 := HCO.out; have h2 := HCL.out; have h3 := HCOST.out
    unfold unCost at h3 ⊢
    unfold Hid; omega
   have v0 := cell_of_row _ _ 0 _ _ _ HX5.out
   simp only [UnR.cells, Sl.val, List.getElem?_toArray, List.getElem?_cons_zero, List.getElem?_cons_succ] at v0
   obtain ⟨NP, hNP⟩ : ∃ NP, NP = u.parts.l.length := ⟨_, rfl⟩
   have HNP := hid hNP
   rw [← hNP] at v0
   have hnp : NP ≤ 2000000 := by
    have h1 := HCU.out
    have h2 : u.cost = ptCost u.parts.l + u.marks.l.length + u.globals.l.length := rfl
    have h3 := ptCost_ge u.parts.l
    omega
   have HPJ0 : Hid (PJI W X.pl (unCost (l.take k)) wr.heap.size u 0 (.slice none 0 0) (.slice none 0 0) X [] [] W5) := ⟨HJ5.out, rfl, HS.out.mono2 (Nat.le_add_right _ _), AX.nil _ _, HX5.out⟩
   obtain ⟨ub, hub⟩ : ∃ ub, ub = wr.heap.size := ⟨_, rfl⟩
   have HUBE := hid hub
   clear hj hp hs hrow hb5 hW5 hNP
   go_upto_region 7 with (fail)
   rw [← HW5.out]
   rw [← hub] at HPJ0 HX5 v0 ⊢
   clear hub u0 u1 u2
   go_wp2_with (fail)
   go_loopw [7, 8, 27] (fun pv fv i wy => ∃ (j : Nat), j ≤ NP ∧ i = .int .i64 j ∧ ∃ (X' : FV) (PL FL : List Nat), PJI W X.pl (unCost (l.take k)) ub u j pv fv X' PL FL wy) (fun _ _ i _ => NP - (intOf i).toNat)
   case atStart => exact ⟨0, Nat.zero_le _, rfl, X, [], [], HPJ0.out⟩
   case round =>
    rename World => wy
    obtain ⟨j, hj, rfl, X1, PL, FL, h1⟩ := hrel
    have H1 := hid h1
    clear HPJ0
    by_cases hjl : j < NP
    ·have hjI : (j : Int) < NP := by omega
     have hjl2 : j < u.parts.l.length := by rw [← HNP.out]; exact hjl
     have hpr := HUI.out.pr.below h1.ji.b
     obtain ⟨pb0, po, hpe, -, -⟩ := hpr.at (by rw [flat_len PtR.cells 4 (fun _ => rfl)]; omega)
     rw [hpe] at hpr
     obtain ⟨p0, p1, p2, p3⟩ := pt_ex hpr j hjl2
     rw [hpe]
     have HPT := hid (HUI.out.pts _ (List.getElem_mem hjl2))
     have HPC := hid (ptCost_take u.parts.l j hjl2)
     have HPL := hid (ptCost_le u.parts.l (j + 1))
     have HSJ : Hid (joinParts (X.pl, [], []) ((u.parts.l.take (j + 1)).map PtR.pl) = jpStep (joinParts (X.pl, [], []) ((u.parts.l.take j).map PtR.pl)) u.parts.l[j].pl) := by
      unfold Hid joinParts
      rw [List.take_add_one, List.getElem?_eq_getElem hjl2, Option.toList_some, List.map_append, List.foldl_append]; rfl
     generalize u.parts.l[j] = y at *
     obtain ⟨W6, hW6⟩ : ∃ W6, W6 = wy.alloc (.cells #[.string y.name, .int .i64 y.file, .int .i64 y.line, .slice y.pieces.p y.pieces.l.length y.pieces.c] 50) := ⟨_, rfl⟩
     have HW6 := hid hW6
     have hb6 : Below wy.heap.size wy W6 := by rw [hW6]; exact alloc_below _ _
     have HX6 : Hid (W6.heap[wy.heap.size]? = some (.cells y.cells.toArray 50 (0, 0))) := by rw [hW6]; exact heap_alloc_new _ _
     have HJ6 := hid (h1.ji.below hb6)
     have hzy := h1.ji.jb.hz
     have HT6 := hid (TrJ.below (P := isPJ) (ob := W.heap.size + 1) hb6 hzy)
     have HB6 := hid hb6
     obtain ⟨am, hm6, ham⟩ := HJ6.out.mp
     obtain ⟨r, hr⟩ : ∃ r, r = idxO (X1.ps.map PtR.name) y.name := ⟨_, rfl⟩
     have HR := hid hr
     have HM6 := hid hm6
     have HAM := hid ham
     have hlk : alook am y.name = r := by rw [hr]; exact ham _
     have HLK := hid hlk
     obtain ⟨q0, q1, q2, q3⟩ : W6.cell? ⟨wy.heap.size, 0, none⟩ = some (.string y.name) ∧ W6.cell? ⟨wy.heap.size, 1, none⟩ = some (.int .i64 y.file) ∧ W6.cell? ⟨wy.heap.size, 2, none⟩ = some (.int .i64 y.line) ∧ W6.cell? ⟨wy.heap.size, 3, none⟩ = some (.slice y.pieces.p y.pieces.l.length y.pieces.c) :=
      ⟨cell_of_row _ _ 0 _ _ _ HX6.out, cell_of_row _ _ 1 _ _ _ HX6.out, cell_of_row _ _ 2 _ _ _ HX6.out, cell_of_row _ _ 3 _ _ _ HX6.out⟩
     clear h1 hpr hpe hb6 hW6 hm6 ham hr hlk hzy
     go_upto_region 10 with (fail)
     rw [← HW6.out]
     clear p0 p1 p2 p3
     go_upto_if 39 with ((with_reducible show wpList _ _ _ (⟨some 35, _, _, _, _, _⟩ :: _) _ _); go_loud (refine wpList_maplook KStr Try.underlying76 rfl _ _ true rfl (.int .i64 0) (by kernel_rfl) _ am rfl HM6.out y.name rfl ?_); simp only [HLK.out, if_true])
     go_cut [11, 12] from 40 to 58 (fun nv _ wx => ∃ (i : Nat) (X2 : FV), nv = .int .i64 i ∧ PartP X1 X2 y.file y.line y.name i ∧ JIs W X2 wx ∧ TrJ isPJ0 W.heap.size (W.heap.size + 1) wy wx ∧ wx.heap[wy.heap.size]? = some (.cells y.cells.toArray 50 (0, 0)))
     case first =>
      --<A
      cases r with
      | some i =>
       go_wp2_with (fail)
       go_meet
       exact ⟨i, X1, rfl, ⟨rfl, rfl, rfl, rfl, rfl, rfl, .inl ⟨rfl, HR.out.symm⟩⟩, HJ6.out, HT6.out.j0, HX6.out⟩
      | none =>
       obtain ⟨pp, cp, hpv, -⟩ := own_shape HJ6.out.jb.is.parts
       have hob := HJ6.out.jb.head
       rw [hpv] at hob
       have ob0 := cell_of_row _ _ 0 _ _ _ hob
       simp only [List.getElem?_toArray, List.getElem?_cons_zero, List.getElem?_cons_succ] at ob0
       have HPV := hid hpv
       have HLT : Hid (∀ g, X1.pv.ownBlock = some g → g < wy.heap.size) := own_lt H1.out.ji.jb.is.parts
       have hxl : X1.ps.length ≤ 2000000 := by
        have h1 := H1.out.sm.ps; have h2 := HCU.out; have h3 := ptCost_le u.parts.l j
        have h4 : u.cost = ptCost u.parts.l + u.marks.l.length + u.globals.l.length := rfl
        omega
       have hbz : W.heap.size ≤ wy.heap.size := H1.out.ji.jb.hz
       have hmz : W.heap.size + 1 + 1 < wy.heap.size := by obtain ⟨am0, h0, -⟩ := H1.out.ji.mp; exact tag_lt (map_tag h0)
       have HMS : Hid (∀ w1 : World, MapIs Value.string natV w1 (W.heap.size + 1 + 1) (aset am y.name X1.ps.length) → W6.grownBy w1 (some (W.heap.size + 1 + 1)) →
         w1.cell? ⟨W.heap.size + 1, 0, none⟩ = some (.slice pp X1.ps.length cp) ∧ w1.heap[wy.heap.size]? = some (.cells y.cells.toArray 50 (0, 0)) ∧ W.heap.size + 1 < w1.heap.size ∧ wy.heap.size < w1.heap.size ∧ w1.ownsRow W.heap.size 50 4 (.slice pp X1.ps.length cp) X1.ps.length (X1.ps.flatMap PtR.cells) ∧
         ∀ (o : Obj) (w8 : World) (v' : Value), (w1.alloc o).grownBy w8 (Value.slice pp X1.ps.length cp).ownBlock → w8.ownsRow W.heap.size 50 4 v' (X1.ps.length + 1) (X1.ps.flatMap PtR.cells ++ PtR.cells ⟨y.name, y.file, y.line, ⟨none, 0, []⟩⟩) →
          JIs W { X1 with pv := v', ps := X1.ps ++ [⟨y.name, y.file, y.line, ⟨none, 0, []⟩⟩] } (w8.setCell ⟨W.heap.size + 1, 0, none⟩ v') ∧ TrJ isPJ0 W.heap.size (W.heap.size + 1) wy (w8.setCell ⟨W.heap.size + 1, 0, none⟩ v') ∧ w8.heap[W.heap.size + 1]? = some (.cells #[.slice pp X1.ps.length cp, X1.mv, X1.gv] 32 (0, 0)) ∧ (w8.setCell ⟨W.heap.size + 1, 0, none⟩ v').heap[wy.heap.size]? = some (.cells y.cells.toArray 50 (0, 0))) := fun w1 hm1 hg1 => by
        obtain ⟨hj1, ht1, hfin⟩ := HJ6.out.newPart HAM.out (y := ⟨y.name, y.file, y.line, ⟨none, 0, []⟩⟩) rfl HR.out.symm hm1 hg1
        have c0 := hj1.cells.1
        have hpo := hj1.is.parts
        rw [HPV.out] at c0 hpo
        have hb1 : w1.heap[wy.heap.size]? = some (.cells y.cells.toArray 50 (0, 0)) := (hg1.block _ (Array.getElem?_eq_some_iff.1 HX6.out).1 (fun e => by injection e with e; omega)).trans HX6.out
        refine ⟨c0, hb1, hj1.lt, (Array.getElem?_eq_some_iff.1 hb1).1, hpo, fun o w8 v' hg8 ho8 => ?_⟩
        have hg8' := hg8
        rw [← HPV.out] at hg8
        obtain ⟨f1, f2, f3⟩ := hfin o w8 v' hg8 ho8
        rw [HPV.out] at f3
        refine ⟨f1, HT6.out.j0.trans f2, f3, (heap_setCell_other _ _ _ _ (by show wy.heap.size ≠ W.heap.size + 1; omega)).trans ((hg8.block _ (by have := (Array.getElem?_eq_some_iff.1 hb1).1; simp; omega) (fun e => ?_)).trans ((Below.heap_alloc _ _ _ (Array.getElem?_eq_some_iff.1 hb1).1).trans hb1))⟩
        have := HLT.out _ e.symm
        omega
       have hbs : W.heap.size ≤ W6.heap.size := Nat.le_trans hbz HB6.out.size
       clear hpv hob
       go_wp2_with (first
        | ((with_reducible show wpList _ _ _ (⟨none, .mapUpdate _ _ _ _, _, _, _, _⟩ :: _) _ _); go_loud (refine wpList_mapset KStr Try.underlying76 rfl _ _ _ (.inl rfl) _ am rfl HM6.out y.name rfl X1.ps.length rfl ?_); go_loud (intro w1 hm1 hg1; obtain ⟨ob0, hx1, hz1, hz2, hpo1, hfin⟩ := HMS.out w1 hm1 hg1; have q0 := cell_of_row _ _ 0 _ _ _ hx1; have q1 := cell_of_row _ _ 1 _ _ _ hx1; have q2 := cell_of_row _ _ 2 _ _ _ hx1; simp only [PtR.cells, List.getElem?_toArray, List.getElem?_cons_zero, List.getElem?_cons_succ] at q0 q1 q2; have HFIN := hid hfin; have HPO1 := hid hpo1; clear hfin hm1 hg1 hpo1 hx1))
        | ((with_reducible show wpList _ _ _ (⟨some 57, _, _, _, _, _⟩ :: _) _ _); go_loud (refine wpList_app EPart rfl _ _ rfl W.heap.size (.slice pp X1.ps.length cp) X1.ps.length (X1.ps.flatMap PtR.cells) rfl (own_below HPO1.out (alloc_below _ _)) _ 1 1 (PtR.cells ⟨y.name, y.file, y.line, ⟨none, 0, []⟩⟩) rfl rfl (by intro h; cases h) (row_blkAt (heap_alloc_new _ _)) (ptr_ones _) (by unfold maxLen; omega) (by omega) (by simp; omega) ?_); go_loud (intro v8 w8 ho8 hg8 hs8; obtain ⟨vp8, vc8, rfl, -⟩ := own_shape ho8; obtain ⟨f1, f2, f3, f4⟩ := HFIN.out _ w8 _ hg8 ho8; have o8 := cell_of_row _ _ 0 _ _ _ f3; have o9 := frozen_of_row _ _ 0 _ _ f3; simp only [List.getElem?_toArray, List.getElem?_cons_zero, List.getElem?_cons_succ] at o8; have HF := hid (And.intro f1 (And.intro f2 f4)); clear f1 f2 f3 f4 ho8 hg8 hs8)))
       go_meet
       exact ⟨X1.ps.length, { X1 with pv := .slice vp8 (X1.ps.length + 1) vc8, ps := X1.ps ++ [⟨y.name, y.file, y.line, ⟨none, 0, []⟩⟩] }, rfl, ⟨rfl, rfl, rfl, rfl, rfl, rfl, .inr ⟨rfl, rfl, HR.out.symm⟩⟩, HF.out.1, HF.out.2.1, HF.out.2.2⟩
      --A>
     case rest =>
      rename World => w7
      obtain ⟨i, X2, rfl, hp2, hj2, ht2, hx2⟩ := hcut
      have HP2 := hid hp2
      have HJ2 := hid hj2
      have HT2 := hid ht2
      have HX2 := hid hx2
      clear q0 q1 q2 q3
      obtain ⟨z, hz⟩ : ∃ z, X2.ps[i]? = some z := by
       rcases hp2.ps with ⟨e1, e2⟩ | ⟨e1, e2, e3⟩
       ·exact ⟨_, List.getElem?_eq_getElem (by have := idx_lt e2; rw [e1]; simpa using this)⟩
       ·exact ⟨_, List.getElem?_eq_getElem (by rw [e1, e2]; simp)⟩
      have HZ := hid hz
      obtain ⟨g, cg, hpv2, hg3, -, hgl, hgt, hge, -⟩ := hj2.jb.part hz
      have hob := hj2.jb.head
      rw [hpv2] at hob
      have ob0 := cell_of_row _ _ 0 _ _ _ hob
      simp only [List.getElem?_toArray, List.getElem?_cons_zero, List.getElem?_cons_succ] at ob0
      obtain ⟨s, hs⟩ : ∃ s, s = z.pieces := ⟨_, rfl⟩
      have HZS := hid hs
      rw [← hs] at hg3
      obtain ⟨zp, zc, zl⟩ := s
      unfold Sl.val at hg3
      dsimp only at hg3
      have hax := H1.out.ax.tr ht2
      have HAX := hid hax
      have q3 := cell_of_row _ _ 3 _ _ _ hx2
      simp only [PtR.cells, Sl.val, List.getElem?_toArray, List.getElem?_cons_zero, List.getElem?_cons_succ] at q3
      clear hp2 hj2 ht2 hx2 hz hpv2 hob hs hax
      have hgl2 : W.heap.size + 1 < w7.heap.size := HJ2.out.jb.lt
      have HNE : Hid (∀ v n xs, w7.ownsRow W.heap.size 3 1 v n xs → ∀ q, v.ownBlock = some q → q ≠ W.heap.size + 1 ∧ q ≠ g) := fun v n xs ho q hq => ⟨tag_ne (own_tag ho hq) HJ2.out.jb.tag (by decide), tag_ne (own_tag ho hq) hgt (by decide)⟩
      obtain ⟨pvp, pvc, hpvE, -⟩ := own_shape HAX.out.p
      obtain ⟨fvp, fvc, hfvE, -⟩ := own_shape HAX.out.f
      subst hpvE
      subst hfvE
      obtain ⟨wd, hwd⟩ : ∃ wd, wd = w7.drew := ⟨_, rfl⟩
      have hbd : Below w7.heap.size w7 wd := by rw [hwd]; exact (Below.refl _ _).drew
      have hzd : wd.heap.size = w7.heap.size := by rw [hwd]; rfl
      have HAD : Hid (AX W.heap.size wd (.slice pvp PL.length pvc) (.slice fvp FL.length fvc) PL FL) := ⟨own_below HAX.out.p hbd, own_below HAX.out.f hbd, HAX.out.ap⟩
      have HBD := hid hbd
      have HPN : Hid (∀ q, (Value.slice pvp PL.length pvc).ownBlock = some q → q ≠ W.heap.size + 1 ∧ q ≠ g) := HNE.out _ _ _ HAX.out.p
      have HFN : Hid (∀ q, (Value.slice fvp FL.length fvc).ownBlock = some q → q ≠ W.heap.size + 1 ∧ q ≠ g) := HNE.out _ _ _ HAX.out.f
      have HPL0 : Hid (∀ q, (Value.slice pvp PL.length pvc).ownBlock = some q → q < wd.heap.size) := own_lt HAD.out.p
      have HFL0 : Hid (∀ q, (Value.slice fvp FL.length fvc).ownBlock = some q → q < wd.heap.size) := own_lt HAD.out.f
      have hld1 : W.heap.size + 1 < wd.heap.size := by omega
      have hld2 : g < wd.heap.size := by omega
      have HSA : Hid (∀ (w : World) (o : Obj), SameAt (W.heap.size + 1) g wd w → SameAt (W.heap.size + 1) g wd (w.alloc o)) := fun w o h => h.alloc hld1 hld2 o
      have HSP : Hid (∀ (w w' : World), SameAt (W.heap.size + 1) g wd w → w.grownBy w' (Value.slice pvp PL.length pvc).ownBlock → SameAt (W.heap.size + 1) g wd w') := fun w w' h hg => h.grown hld1 hld2 hg HPN.out
      have HSF : Hid (∀ (w w' : World), SameAt (W.heap.size + 1) g wd w → w.grownBy w' (Value.slice fvp FL.length fvc).ownBlock → SameAt (W.heap.size + 1) g wd w') := fun w w' h hg => h.grown hld1 hld2 hg HFN.out
      have k0 : ∀ w : World, SameAt (W.heap.size + 1) g wd w → w.cell? ⟨W.heap.size + 1, 0, none⟩ = some (.slice (some ⟨g, 0, none⟩) X2.ps.length cg) := fun w h => (World.cell?_of_block (a := ⟨W.heap.size + 1, 0, none⟩) h.a).trans ((hbd.cell (p := ⟨W.heap.size + 1, 0, none⟩) hgl2).trans ob0)
      have k3 : ∀ w : World, SameAt (W.heap.size + 1) g wd w → w.cell? ⟨g, i * 4 + 3, none⟩ = some (.slice zp zl.length zc) := fun w h => (World.cell?_of_block (a := ⟨g, i * 4 + 3, none⟩) h.b).trans ((hbd.cell (p := ⟨g, i * 4 + 3, none⟩) hgl).trans hg3)
      have HH0 : Hid (SameAt (W.heap.size + 1) g wd wd) := ⟨Nat.le_refl _, rfl, rfl⟩
      have hil : (i : Int) < X2.ps.length := by have := (List.getElem?_eq_some_iff.1 HZ.out).1; omega
      have hil2 : i < X2.ps.length := by omega
      have hpll : PL.length ≤ 2000000 := by have := congrArg (fun q => q.2.1.length) H1.out.pl; rw [(joinParts_ms _ _).2.2.2.1] at this; simp at this; have h3 := HNP.out; omega
      have hfll : FL.length ≤ 2000000 := by have := congrArg (fun q => q.2.2.length) H1.out.pl; rw [(joinParts_ms _ _).2.2.2.2] at this; simp at this; have h3 := HNP.out; omega
      have hbwz : W.heap.size ≤ wd.heap.size := by omega
      have HB1 : Hid (∀ o, Below w7.heap.size w7 (wd.alloc o)) := fun o => hbd.alloc hbd.size o
      have HB2 : Hid (∀ o o2, Below w7.heap.size w7 ((wd.alloc o).alloc o2)) := fun o o2 => (HB1.out o).alloc (HB1.out o).size o2
      clear HNE hbd hzd
      go_upto_region 15 with (fail)
      go_cut [7, 8] from 59 to 72 (fun p' f' wx => AX W.heap.size wx p' f' (PL ++ [i]) (FL ++ [zl.length]) ∧ TrJ isPI W.heap.size (W.heap.size + 1) w7 wx)
      case first =>
       --<A
       refine wp_region_held_drew (S := SameAt (W.heap.size + 1) g wd) (by kernel_rfl) (by rw [← hwd]; exact HH0.out) (fun hHeld => ?_)
       rw [← hwd] at *
       refine wpAnyH_take (i := 0) (oi := { dst := some 59, op := Op.move (Operand.tmp 7), type := 91, pos := "frag.go:160", after := #[], guard := none }) (v := ?pav0) rfl (by kernel_rfl) (by kernel_rfl) (by kernel_rfl) (fun _ _ _ h => h) (Or.inl ⟨by rfl, ?pah0⟩) (by assumption) ?par0
       case pah0 => ((intro w hSw; (try dsimp only at hSw); go_simp); try with_reducible rfl)
       try simp only [Act.put, List.setIfInBounds_toArray, List.set_cons_zero, List.set_cons_succ]
       refine wpAnyH_take (i := 1) (oi := { dst := some 60, op := Op.move (Operand.tmp 11), type := 3, pos := "frag.go:160", after := #[], guard := none }) (v := ?pav1) rfl (by kernel_rfl) (by kernel_rfl) (by kernel_rfl) (fun _ _ _ h => h) (Or.inl ⟨by rfl, ?pah1⟩) (by assumption) ?par1
       case pah1 => ((intro w hSw; (try dsimp only at hSw); go_simp); try with_reducible rfl)
       try simp only [Act.put, List.setIfInBounds_toArray, List.set_cons_zero, List.set_cons_succ]
       refine wpAnyH_take (i := 4) (oi := { dst := some 63, op := Op.move (Operand.tmp 8), type := 91, pos := "frag.go:160", after := #[], guard := none }) (v := ?pav4) rfl (by kernel_rfl) (by kernel_rfl) (by kernel_rfl) (fun _ _ _ h => h) (Or.inl ⟨by rfl, ?pah4⟩) (by assumption) ?par4
       case pah4 => ((intro w hSw; (try dsimp only at hSw); go_simp); try with_reducible rfl)
       try simp only [Act.put, List.setIfInBounds_toArray, List.set_cons_zero, List.set_cons_succ]
       refine wpAnyH_take (i := 5) (oi := { dst := some 64, op := Op.fieldAddr 32 (Operand.tmp 3) 0, type := 0, pos := "frag.go:160", after := #[], guard := none }) (v := ?pav5) rfl (by kernel_rfl) (by kernel_rfl) (by kernel_rfl) (fun _ _ _ h => h) (Or.inl ⟨by rfl, ?pah5⟩) (by assumption) ?par5
       case pah5 => ((intro w hSw; (try dsimp only at hSw); go_simp); try with_reducible rfl)
       try simp only [Act.put, List.setIfInBounds_toArray, List.set_cons_zero, List.set_cons_succ]
       refine wpAnyH_take (i := 6) (oi := { dst := some 65, op := Op.load 28 (Operand.tmp 64), type := 28, pos := "frag.go:160", after := #[{ on := 5, ground := Ground.data }], guard := none }) (v := ?pav6) rfl (by kernel_rfl) (by kernel_rfl) (by kernel_rfl) (fun _ _ _ h => h) (Or.inl ⟨by rfl, ?pah6⟩) (by assumption) ?par6
       case pah6 => ((intro w hSw; (try dsimp only at hSw); go_simp); try with_reducible rfl)
       try simp only [Act.put, List.setIfInBounds_toArray, List.set_cons_zero, List.set_cons_succ]
       refine wpAnyH_take (i := 7) (oi := { dst := some 66, op := Op.move (Operand.tmp 11), type := 3, pos := "frag.go:160", after := #[], guard := none }) (v := ?pav7) rfl (by kernel_rfl) (by kernel_rfl) (by kernel_rfl) (fun _ _ _ h => h) (Or.inl ⟨by rfl, ?pah7⟩) (by assumption) ?par7
       case pah7 => ((intro w hSw; (try dsimp only at hSw); go_simp); try with_reducible rfl)
       try simp only [Act.put, List.setIfInBounds_toArray, List.set_cons_zero, List.set_cons_succ]
       refine wpAnyH_take (i := 8) (oi := { dst := some 67, op := Op.indexAddr 28 (Operand.tmp 65) (Operand.tmp 66), type := 0, pos := "frag.go:160", after := #[{ on := 6, ground := Ground.data }, { on := 7, ground := Ground.data }], guard := none }) (v := ?pav8) rfl (by kernel_rfl) (by kernel_rfl) (by kernel_rfl) (fun _ _ _ h => h) (Or.inl ⟨by rfl, ?pah8⟩) (by assumption) ?par8
       case pah8 => ((intro w hSw; (try dsimp only at hSw); go_simp); try with_reducible rfl)
       try simp only [Act.put, List.setIfInBounds_toArray, List.set_cons_zero, List.set_cons_succ]
       refine wpAnyH_take (i := 9) (oi := { dst := some 68, op := Op.fieldAddr 50 (Operand.tmp 67) 3, type := 0, pos := "frag.go:160", after := #[{ on := 8, ground := Ground.data }], guard := none }) (v := ?pav9) rfl (by kernel_rfl) (by kernel_rfl) (by kernel_rfl) (fun _ _ _ h => h) (Or.inl ⟨by rfl, ?pah9⟩) (by assumption) ?par9
       case pah9 => ((intro w hSw; (try dsimp only at hSw); go_simp); try with_reducible rfl)
       try simp only [Act.put, List.setIfInBounds_toArray, List.set_cons_zero, List.set_cons_succ]
       refine wpAnyH_take (i := 10) (oi := { dst := some 69, op := Op.load 48 (Operand.tmp 68), type := 48, pos := "frag.go:160", after := #[{ on := 9, ground := Ground.data }], guard := none }) (v := ?pav10) rfl (by kernel_rfl) (by kernel_rfl) (by kernel_rfl) (fun _ _ _ h => h) (Or.inl ⟨by rfl, ?pah10⟩) (by assumption) ?par10
       case pah10 => ((intro w hSw; (try dsimp only at hSw); go_simp); try with_reducible rfl)
       try simp only [Act.put, List.setIfInBounds_toArray, List.set_cons_zero, List.set_cons_succ]
       refine wpAnyH_take (i := 11) (oi := { dst := some 70, op := Op.call { callee := Callee.builtin Builtin.len, args := #[Operand.tmp 69], argTypes := #[48] }, type := 3, pos := "frag.go:160", after := #[{ on := 10, ground := Ground.data }], guard := none }) (v := ?pav11) rfl (by kernel_rfl) (by kernel_rfl) (by kernel_rfl) (fun _ _ _ h => h) (Or.inl ⟨by rfl, ?pah11⟩) (by assumption) ?par11
       case pah11 => ((intro w hSw; (try dsimp only at hSw); go_simp); try with_reducible rfl)
       try simp only [Act.put, List.setIfInBounds_toArray, List.set_cons_zero, List.set_cons_succ]
       refine wpAnyH_ready (rs := [2, 12]) (by kernel_rfl) (by simp) ?_
       refine AllReadyH.cons (o := { dst := some 61, op := Op.buildSlice 91 1 #[(0, Operand.tmp 60)], type := 91, pos := "frag.go:160", after := #[{ on := 1, ground := Ground.data }], guard := none }) rfl (fun K hK => ?_) ?_
       ·go_simp; refine hK.out _ _ (HSA.out _ _ hHeld) (fun hHeld => ?_)
        clear hK K
        try simp only [Act.put, List.setIfInBounds_toArray, List.set_cons_zero, List.set_cons_succ]
        refine wpAnyH_ready (rs := [3, 12]) (by kernel_rfl) (by simp) ?_
        refine AllReadyH.cons (o := { dst := some 62, op := Op.call { callee := Callee.builtin Builtin.append, args := #[Operand.tmp 59, Operand.tmp 61], argTypes := #[91, 91] }, type := 91, pos := "frag.go:160", after := #[{ on := 0, ground := Ground.data }, { on := 2, ground := Ground.data }], guard := none }) rfl (fun K hK => ?_) ?_
        ·(refine step_app EInt rfl (.tmp 59) (.tmp 61) rfl W.heap.size (.slice pvp PL.length pvc) PL.length (PL.map natV) rfl (by first | exact HAD.out.p.alloc _ | exact (HAD.out.p.alloc _).alloc _) _ 1 1 [natV i] rfl rfl (by first | exact row_newAt _ _ _ _ (by simp) | exact (row_newAt _ _ _ _ (by simp)).alloc _) (nat_ones [i]) (by unfold maxLen; omega) (by omega) (by simp; omega) ?_); intro p1 wa hop hgp hsp; obtain ⟨p1p, p1c, rfl, -⟩ := own_shape hop; have HOP := hid hop; have HGP := hid hgp; have HSTP := hid hsp; clear hop hgp hsp; refine hK.out _ _ (HSP.out _ _ hHeld HGP.out) (fun hHeld => ?_)
         clear hK K
         try simp only [Act.put, List.setIfInBounds_toArray, List.set_cons_zero, List.set_cons_succ]
         refine wpAnyH_ready (rs := [12]) (by kernel_rfl) (by simp) ?_
         refine AllReadyH.cons (o := { dst := some 71, op := Op.buildSlice 91 1 #[(0, Operand.tmp 70)], type := 91, pos := "frag.go:160", after := #[{ on := 11, ground := Ground.data }], guard := none }) rfl (fun K hK => ?_) AllReadyH.nil
         go_simp; refine hK.out _ _ (HSA.out _ _ hHeld) (fun hHeld => ?_)
         clear hK K
         try simp only [Act.put, List.setIfInBounds_toArray, List.set_cons_zero, List.set_cons_succ]
         refine wpAnyH_ready (rs := [13]) (by kernel_rfl) (by simp) ?_
         refine AllReadyH.cons (o := { dst := some 72, op := Op.call { callee := Callee.builtin Builtin.append, args := #[Operand.tmp 63, Operand.tmp 71], argTypes := #[91, 91] }, type := 91, pos := "frag.go:160", after := #[{ on := 4, ground := Ground.data }, { on := 12, ground := Ground.data }, { on := 3, ground := Ground.chain }], guard := none }) rfl (fun K hK => ?_) AllReadyH.nil
         (refine step_app EInt rfl (.tmp 63) (.tmp 71) rfl W.heap.size (.slice fvp FL.length fvc) FL.length (FL.map natV) rfl (by first | exact (own_kept (HAD.out.f.alloc _) HGP.out HAD.out.ap.symm).alloc _ | exact own_kept ((HAD.out.f.alloc _).alloc _) HGP.out HAD.out.ap.symm) _ 1 1 [natV zl.length] rfl rfl (by first | exact row_newAt _ _ _ _ (by simp) | exact Row.grownAt (row_newAt _ _ _ _ (by simp)) HGP.out HPL0.out (by simp; try omega) (by simp; try omega) | exact Row.grownAt ((row_newAt _ _ _ _ (by simp)).alloc _) HGP.out HPL0.out (by simp; try omega) (by simp; try omega)) (nat_ones [zl.length]) (by unfold maxLen; omega) (by omega) (by have := hHeld.sz; omega) ?_); intro f1 wb hof hgf hsf; obtain ⟨f1p, f1c, rfl, -⟩ := own_shape hof; have HOF := hid hof; have HGF := hid hgf; have HSTF := hid hsf; clear hof hgf hsf; refine hK.out _ _ (HSF.out _ _ hHeld HGF.out) (fun hHeld => ?_)
         clear hK K
         try simp only [Act.put, List.setIfInBounds_toArray, List.set_cons_zero, List.set_cons_succ]
         refine wpAnyH_take (i := 14) (oi := { dst := some 7, op := Op.assign (Operand.tmp 62), type := 91, pos := "frag.go:160", after := #[{ on := 3, ground := Ground.data }, { on := 13, ground := Ground.chain }, { on := 0, ground := Ground.phase }, { on := 1, ground := Ground.phase }, { on := 2, ground := Ground.phase }, { on := 3, ground := Ground.phase }, { on := 4, ground := Ground.textOnly Departure.lateStores }, { on := 5, ground := Ground.textOnly Departure.lateStores }, { on := 6, ground := Ground.textOnly Departure.lateStores }, { on := 7, ground := Ground.textOnly Departure.lateStores }, { on := 8, ground := Ground.textOnly Departure.lateStores }, { on := 9, ground := Ground.textOnly Departure.lateStores }, { on := 10, ground := Ground.textOnly Departure.lateStores }, { on := 11, ground := Ground.textOnly Departure.lateStoresUnsure }, { on := 12, ground := Ground.textOnly Departure.lateStores }, { on := 13, ground := Ground.textOnly Departure.lateStoresUnsure }], guard := none }) (v := ?paaav14) rfl (by kernel_rfl) (by kernel_rfl) (by kernel_rfl) (fun _ _ _ h => h) (Or.inl ⟨by rfl, ?paaah14⟩) (by assumption) ?paaar14
         case paaah14 => ((intro w hSw; (try dsimp only at hSw); go_simp); try with_reducible rfl)
         try simp only [Act.put, List.setIfInBounds_toArray, List.set_cons_zero, List.set_cons_succ]
         refine wpAnyH_take (i := 15) (oi := { dst := some 8, op := Op.assign (Operand.tmp 72), type := 91, pos := "frag.go:160", after := #[{ on := 13, ground := Ground.data }, { on := 14, ground := Ground.chain }, { on := 0, ground := Ground.phase }, { on := 1, ground := Ground.phase }, { on := 2, ground := Ground.phase }, { on := 3, ground := Ground.phase }, { on := 4, ground := Ground.phase }, { on := 5, ground := Ground.phase }, { on := 6, ground := Ground.phase }, { on := 7, ground := Ground.phase }, { on := 8, ground := Ground.phase }, { on := 9, ground := Ground.phase }, { on := 10, ground := Ground.phase }, { on := 11, ground := Ground.phase }, { on := 12, ground := Ground.phase }, { on := 13, ground := Ground.phase }, { on := 14, ground := Ground.phase }], guard := none }) (v := ?paaav15) rfl (by kernel_rfl) (by kernel_rfl) (by kernel_rfl) (fun _ _ _ h => h) (Or.inl ⟨by rfl, ?paaah15⟩) (by assumption) ?paaar15
         case paaah15 => ((intro w hSw; (try dsimp only at hSw); go_simp); try with_reducible rfl)
         try simp only [Act.put, List.setIfInBounds_toArray, List.set_cons_zero, List.set_cons_succ]
         refine wpAnyH_done (by kernel_rfl) ?_ _
         go_wp2_with fail
         go_meet
         (first | exact two_app HAX.out HJ2.out.jb.hz (HB1.out _) HOP.out HGP.out HSTP.out (alloc_below _ _) HOF.out HGF.out HSTF.out | exact two_app HAX.out HJ2.out.jb.hz (HB2.out _ _) HOP.out HGP.out HSTP.out (Below.refl _ _) HOF.out HGF.out HSTF.out)
        refine AllReadyH.cons (o := { dst := some 71, op := Op.buildSlice 91 1 #[(0, Operand.tmp 70)], type := 91, pos := "frag.go:160", after := #[{ on := 11, ground := Ground.data }], guard := none }) rfl (fun K hK => ?_) AllReadyH.nil
        go_simp; refine hK.out _ _ (HSA.out _ _ hHeld) (fun hHeld => ?_)
        clear hK K
        try simp only [Act.put, List.setIfInBounds_toArray, List.set_cons_zero, List.set_cons_succ]
        refine wpAnyH_ready (rs := [3]) (by kernel_rfl) (by simp) ?_
        refine AllReadyH.cons (o := { dst := some 62, op := Op.call { callee := Callee.builtin Builtin.append, args := #[Operand.tmp 59, Operand.tmp 61], argTypes := #[91, 91] }, type := 91, pos := "frag.go:160", after := #[{ on := 0, ground := Ground.data }, { on := 2, ground := Ground.data }], guard := none }) rfl (fun K hK => ?_) AllReadyH.nil
        (refine step_app EInt rfl (.tmp 59) (.tmp 61) rfl W.heap.size (.slice pvp PL.length pvc) PL.length (PL.map natV) rfl (by first | exact HAD.out.p.alloc _ | exact (HAD.out.p.alloc _).alloc _) _ 1 1 [natV i] rfl rfl (by first | exact row_newAt _ _ _ _ (by simp) | exact (row_newAt _ _ _ _ (by simp)).alloc _) (nat_ones [i]) (by unfold maxLen; omega) (by omega) (by simp; omega) ?_); intro p1 wa hop hgp hsp; obtain ⟨p1p, p1c, rfl, -⟩ := own_shape hop; have HOP := hid hop; have HGP := hid hgp; have HSTP := hid hsp; clear hop hgp hsp; refine hK.out _ _ (HSP.out _ _ hHeld HGP.out) (fun hHeld => ?_)
        clear hK K
        try simp only [Act.put, List.setIfInBounds_toArray, List.set_cons_zero, List.set_cons_succ]
        refine wpAnyH_ready (rs := [13]) (by kernel_rfl) (by simp) ?_
        refine AllReadyH.cons (o := { dst := some 72, op := Op.call { callee := Callee.builtin Builtin.append, args := #[Operand.tmp 63, Operand.tmp 71], argTypes := #[91, 91] }, type := 91, pos := "frag.go:160", after := #[{ on := 4, ground := Ground.data }, { on := 12, ground := Ground.data }, { on := 3, ground := Ground.chain }], guard := none }) rfl (fun K hK => ?_) AllReadyH.nil
        (refine step_app EInt rfl (.tmp 63) (.tmp 71) rfl W.heap.size (.slice fvp FL.length fvc) FL.length (FL.map natV) rfl (by first | exact (own_kept (HAD.out.f.alloc _) HGP.out HAD.out.ap.symm).alloc _ | exact own_kept ((HAD.out.f.alloc _).alloc _) HGP.out HAD.out.ap.symm) _ 1 1 [natV zl.length] rfl rfl (by first | exact row_newAt _ _ _ _ (by simp) | exact Row.grownAt (row_newAt _ _ _ _ (by simp)) HGP.out HPL0.out (by simp; try omega) (by simp; try omega) | exact Row.grownAt ((row_newAt _ _ _ _ (by simp)).alloc _) HGP.out HPL0.out (by simp; try omega) (by simp; try omega)) (nat_ones [zl.length]) (by unfold maxLen; omega) (by omega) (by have := hHeld.sz; omega) ?_); intro f1 wb hof hgf hsf; obtain ⟨f1p, f1c, rfl, -⟩ := own_shape hof; have HOF := hid hof; have HGF := hid hgf; have HSTF := hid hsf; clear hof hgf hsf; refine hK.out _ _ (HSF.out _ _ hHeld HGF.out) (fun hHeld => ?_)
        clear hK K
        try simp only [Act.put, List.setIfInBounds_toArray, List.set_cons_zero, List.set_cons_succ]
        refine wpAnyH_take (i := 14) (oi := { dst := some 7, op := Op.assign (Operand.tmp 62), type := 91, pos := "frag.go:160", after := #[{ on := 3, ground := Ground.data }, { on := 13, ground := Ground.chain }, { on := 0, ground := Ground.phase }, { on := 1, ground := Ground.phase }, { on := 2, ground := Ground.phase }, { on := 3, ground := Ground.phase }, { on := 4, ground := Ground.textOnly Departure.lateStores }, { on := 5, ground := Ground.textOnly Departure.lateStores }, { on := 6, ground := Ground.textOnly Departure.lateStores }, { on := 7, ground := Ground.textOnly Departure.lateStores }, { on := 8, ground := Ground.textOnly Departure.lateStores }, { on := 9, ground := Ground.textOnly Departure.lateStores }, { on := 10, ground := Ground.textOnly Departure.lateStores }, { on := 11, ground := Ground.textOnly Departure.lateStoresUnsure }, { on := 12, ground := Ground.textOnly Departure.lateStores }, { on := 13, ground := Ground.textOnly Departure.lateStoresUnsure }], guard := none }) (v := ?paabv14) rfl (by kernel_rfl) (by kernel_rfl) (by kernel_rfl) (fun _ _ _ h => h) (Or.inl ⟨by rfl, ?paabh14⟩) (by assumption) ?paabr14
        case paabh14 => ((intro w hSw; (try dsimp only at hSw); go_simp); try with_reducible rfl)
        try simp only [Act.put, List.setIfInBounds_toArray, List.set_cons_zero, List.set_cons_succ]
        refine wpAnyH_take (i := 15) (oi := { dst := some 8, op := Op.assign (Operand.tmp 72), type := 91, pos := "frag.go:160", after := #[{ on := 13, ground := Ground.data }, { on := 14, ground := Ground.chain }, { on := 0, ground := Ground.phase }, { on := 1, ground := Ground.phase }, { on := 2, ground := Ground.phase }, { on := 3, ground := Ground.phase }, { on := 4, ground := Ground.phase }, { on := 5, ground := Ground.phase }, { on := 6, ground := Ground.phase }, { on := 7, ground := Ground.phase }, { on := 8, ground := Ground.phase }, { on := 9, ground := Ground.phase }, { on := 10, ground := Ground.phase }, { on := 11, ground := Ground.phase }, { on := 12, ground := Ground.phase }, { on := 13, ground := Ground.phase }, { on := 14, ground := Ground.phase }], guard := none }) (v := ?paabv15) rfl (by kernel_rfl) (by kernel_rfl) (by kernel_rfl) (fun _ _ _ h => h) (Or.inl ⟨by rfl, ?paabh15⟩) (by assumption) ?paabr15
        case paabh15 => ((intro w hSw; (try dsimp only at hSw); go_simp); try with_reducible rfl)
        try simp only [Act.put, List.setIfInBounds_toArray, List.set_cons_zero, List.set_cons_succ]
        refine wpAnyH_done (by kernel_rfl) ?_ _
        go_wp2_with fail
        go_meet
        (first | exact two_app HAX.out HJ2.out.jb.hz (HB1.out _) HOP.out HGP.out HSTP.out (alloc_below _ _) HOF.out HGF.out HSTF.out | exact two_app HAX.out HJ2.out.jb.hz (HB2.out _ _) HOP.out HGP.out HSTP.out (Below.refl _ _) HOF.out HGF.out HSTF.out)
       refine AllReadyH.cons (o := { dst := some 71, op := Op.buildSlice 91 1 #[(0, Operand.tmp 70)], type := 91, pos := "frag.go:160", after := #[{ on := 11, ground := Ground.data }], guard := none }) rfl (fun K hK => ?_) AllReadyH.nil
       go_simp; refine hK.out _ _ (HSA.out _ _ hHeld) (fun hHeld => ?_)
       clear hK K
       try simp only [Act.put, List.setIfInBounds_toArray, List.set_cons_zero, List.set_cons_succ]
       refine wpAnyH_ready (rs := [2]) (by kernel_rfl) (by simp) ?_
       refine AllReadyH.cons (o := { dst := some 61, op := Op.buildSlice 91 1 #[(0, Operand.tmp 60)], type := 91, pos := "frag.go:160", after := #[{ on := 1, ground := Ground.data }], guard := none }) rfl (fun K hK => ?_) AllReadyH.nil
       go_simp; refine hK.out _ _ (HSA.out _ _ hHeld) (fun hHeld => ?_)
       clear hK K
       try simp only [Act.put, List.setIfInBounds_toArray, List.set_cons_zero, List.set_cons_succ]
       refine wpAnyH_ready (rs := [3]) (by kernel_rfl) (by simp) ?_
       refine AllReadyH.cons (o := { dst := some 62, op := Op.call { callee := Callee.builtin Builtin.append, args := #[Operand.tmp 59, Operand.tmp 61], argTypes := #[91, 91] }, type := 91, pos := "frag.go:160", after := #[{ on := 0, ground := Ground.data }, { on := 2, ground := Ground.data }], guard := none }) rfl (fun K hK => ?_) AllReadyH.nil
       (refine step_app EInt rfl (.tmp 59) (.tmp 61) rfl W.heap.size (.slice pvp PL.length pvc) PL.length (PL.map natV) rfl (by first | exact HAD.out.p.alloc _ | exact (HAD.out.p.alloc _).alloc _) _ 1 1 [natV i] rfl rfl (by first | exact row_newAt _ _ _ _ (by simp) | exact (row_newAt _ _ _ _ (by simp)).alloc _) (nat_ones [i]) (by unfold maxLen; omega) (by omega) (by simp; omega) ?_); intro p1 wa hop hgp hsp; obtain ⟨p1p, p1c, rfl, -⟩ := own_shape hop; have HOP := hid hop; have HGP := hid hgp; have HSTP := hid hsp; clear hop hgp hsp; refine hK.out _ _ (HSP.out _ _ hHeld HGP.out) (fun hHeld => ?_)
       clear hK K
       try simp only [Act.put, List.setIfInBounds_toArray, List.set_cons_zero, List.set_cons_succ]
       refine wpAnyH_ready (rs := [13]) (by kernel_rfl) (by simp) ?_
       refine AllReadyH.cons (o := { dst := some 72, op := Op.call { callee := Callee.builtin Builtin.append, args := #[Operand.tmp 63, Operand.tmp 71], argTypes := #[91, 91] }, type := 91, pos := "frag.go:160", after := #[{ on := 4, ground := Ground.data }, { on := 12, ground := Ground.data }, { on := 3, ground := Ground.chain }], guard := none }) rfl (fun K hK => ?_) AllReadyH.nil
       (refine step_app EInt rfl (.tmp 63) (.tmp 71) rfl W.heap.size (.slice fvp FL.length fvc) FL.length (FL.map natV) rfl (by first | exact (own_kept (HAD.out.f.alloc _) HGP.out HAD.out.ap.symm).alloc _ | exact own_kept ((HAD.out.f.alloc _).alloc _) HGP.out HAD.out.ap.symm) _ 1 1 [natV zl.length] rfl rfl (by first | exact row_newAt _ _ _ _ (by simp) | exact Row.grownAt (row_newAt _ _ _ _ (by simp)) HGP.out HPL0.out (by simp; try omega) (by simp; try omega) | exact Row.grownAt ((row_newAt _ _ _ _ (by simp)).alloc _) HGP.out HPL0.out (by simp; try omega) (by simp; try omega)) (nat_ones [zl.length]) (by unfold maxLen; omega) (by omega) (by have := hHeld.sz; omega) ?_); intro f1 wb hof hgf hsf; obtain ⟨f1p, f1c, rfl, -⟩ := own_shape hof; have HOF := hid hof; have HGF := hid hgf; have HSTF := hid hsf; clear hof hgf hsf; refine hK.out _ _ (HSF.out _ _ hHeld HGF.out) (fun hHeld => ?_)
       clear hK K
       try simp only [Act.put, List.setIfInBounds_toArray, List.set_cons_zero, List.set_cons_succ]
       refine wpAnyH_take (i := 14) (oi := { dst := some 7, op := Op.assign (Operand.tmp 62), type := 91, pos := "frag.go:160", after := #[{ on := 3, ground := Ground.data }, { on := 13, ground := Ground.chain }, { on := 0, ground := Ground.phase }, { on := 1, ground := Ground.phase }, { on := 2, ground := Ground.phase }, { on := 3, ground := Ground.phase }, { on := 4, ground := Ground.textOnly Departure.lateStores }, { on := 5, ground := Ground.textOnly Departure.lateStores }, { on := 6, ground := Ground.textOnly Departure.lateStores }, { on := 7, ground := Ground.textOnly Departure.lateStores }, { on := 8, ground := Ground.textOnly Departure.lateStores }, { on := 9, ground := Ground.textOnly Departure.lateStores }, { on := 10, ground := Ground.textOnly Departure.lateStores }, { on := 11, ground := Ground.textOnly Departure.lateStoresUnsure }, { on := 12, ground := Ground.textOnly Departure.lateStores }, { on := 13, ground := Ground.textOnly Departure.lateStoresUnsure }], guard := none }) (v := ?pabv14) rfl (by kernel_rfl) (by kernel_rfl) (by kernel_rfl) (fun _ _ _ h => h) (Or.inl ⟨by rfl, ?pabh14⟩) (by assumption) ?pabr14
       case pabh14 => ((intro w hSw; (try dsimp only at hSw); go_simp); try with_reducible rfl)
       try simp only [Act.put, List.setIfInBounds_toArray, List.set_cons_zero, List.set_cons_succ]
       refine wpAnyH_take (i := 15) (oi := { dst := some 8, op := Op.assign (Operand.tmp 72), type := 91, pos := "frag.go:160", after := #[{ on := 13, ground := Ground.data }, { on := 14, ground := Ground.chain }, { on := 0, ground := Ground.phase }, { on := 1, ground := Ground.phase }, { on := 2, ground := Ground.phase }, { on := 3, ground := Ground.phase }, { on := 4, ground := Ground.phase }, { on := 5, ground := Ground.phase }, { on := 6, ground := Ground.phase }, { on := 7, ground := Ground.phase }, { on := 8, ground := Ground.phase }, { on := 9, ground := Ground.phase }, { on := 10, ground := Ground.phase }, { on := 11, ground := Ground.phase }, { on := 12, ground := Ground.phase }, { on := 13, ground := Ground.phase }, { on := 14, ground := Ground.phase }], guard := none }) (v := ?pabv15) rfl (by kernel_rfl) (by kernel_rfl) (by kernel_rfl) (fun _ _ _ h => h) (Or.inl ⟨by rfl, ?pabh15⟩) (by assumption) ?pabr15
       case pabh15 => ((intro w hSw; (try dsimp only at hSw); go_simp); try with_reducible rfl)
       try simp only [Act.put, List.setIfInBounds_toArray, List.set_cons_zero, List.set_cons_succ]
       refine wpAnyH_done (by kernel_rfl) ?_ _
       go_wp2_with fail
       go_meet
       (first | exact two_app HAX.out HJ2.out.jb.hz (HB1.out _) HOP.out HGP.out HSTP.out (alloc_below _ _) HOF.out HGF.out HSTF.out | exact two_app HAX.out HJ2.out.jb.hz (HB2.out _ _) HOP.out HGP.out HSTP.out (Below.refl _ _) HOF.out HGF.out HSTF.out)
       --A>
      case rest =>
       rename World => w8
       obtain ⟨hax8, ht8⟩ := hcut
       have HAX8 := hid hax8
       have hj8 := HJ2.out.ints ht8
       have HT8 := hid ht8
       have hx8 := (ht8.t.2.tag _ _ (tag_row HX2.out) (by unfold isPI; decide)).trans HX2.out
       have q3 := cell_of_row _ _ 3 _ _ _ hx8
       simp only [PtR.cells, Sl.val, List.getElem?_toArray, List.getElem?_cons_zero, List.getElem?_cons_succ] at q3
       have HBX8 : Hid (w8.heap[ub]? = some (.cells u.cells.toArray 32 (0, 0))) := ht8.box (by have := HUB.out; have := HUBE.out; omega) (HT2.out.box (by have := HUB.out; have := HUBE.out; omega) H1.out.box rfl) rfl
       obtain ⟨NQ, hNQ⟩ : ∃ NQ, NQ = y.pieces.l.length := ⟨_, rfl⟩
       have HNQ := hid hNQ
       rw [← hNQ] at q3
       obtain ⟨nn, hnn⟩ : ∃ nn, nn = unCost (l.take k) + ptCost (u.parts.l.take j) + 1 := ⟨_, rfl⟩
       have HNN := hid hnn
       have hns : nn + NQ ≤ 2000000 := by
        have h1 := HCU.out; have h2 := HPC.out; have h3 := HPL.out
        have h4 : u.cost = ptCost u.parts.l + u.marks.l.length + u.globals.l.length := rfl
        omega
       have HXJ0 : Hid (XJI W X2 i y.pieces.l nn 0 X2 w8 w8) := ⟨hj8, by rw [List.take_zero, List.map_nil, modify_nil], rfl, rfl, by rw [hnn]; exact HP2.out.sm H1.out.sm, TrJ.refl _ _ _⟩
       clear hax8 hj8 ht8 hx8 hNQ hnn ob0 hg3 hgl hgt hge hgl2 hld1 hld2 k0 k3 hbwz
       go_wp2_with (fail)
       go_loopw [76] (fun iv wq => ∃ (m : Nat), m ≤ NQ ∧ iv = .int .i64 m ∧ ∃ X4, XJI W X2 i y.pieces.l nn m X4 w8 wq) (fun iv _ => NQ - (intOf iv).toNat)
       case atStart => exact ⟨0, Nat.zero_le _, rfl, X2, HXJ0.out⟩
       case round =>
        rename World => wq
        obtain ⟨m, hm, rfl, X4, h4⟩ := hrel
        have H4 := hid h4
        clear HXJ0
        by_cases hml : m < NQ
        ·have hmI : (m : Int) < NQ := by omega
         have hml2 : m < y.pieces.l.length := by rw [← HNQ.out]; exact hml
         have hPT := HPT.out.below h4.ji.b
         have hqr := hPT.row
         obtain ⟨qb, qo, hqe, -, -⟩ := hqr.at (by rw [flat_len PcR.cells 11 (fun _ => rfl)]; omega)
         rw [hqe] at hqr
         obtain ⟨x0, x1, x2, x3, x4, x5, x6, x7, x8, x9, x10⟩ := pc_ex hqr m hml2
         rw [hqe]
         have HRD := hid (hPT.pcs _ (List.getElem_mem hml2))
         have HTM : Hid (y.pieces.l.take (m + 1) = y.pieces.l.take m ++ [y.pieces.l[m]]) := by unfold Hid; rw [List.take_add_one, List.getElem?_eq_getElem hml2]; rfl
         generalize y.pieces.l[m] = x at *
         obtain ⟨W9, hW9⟩ : ∃ W9, W9 = wq.alloc (.cells #[.int .i64 x.kind, .int .i64 x.file, .int .i64 x.line, .string x.l.name, .slice x.l.opers.p x.l.opers.l.length x.l.opers.c, .int .i64 x.v.add, .string x.v.plus, .string x.v.minus, .int .i64 x.size, .slice x.b.p x.b.l.length x.b.c, .int .i64 x.align] 64) := ⟨_, rfl⟩
         have HW9 := hid hW9
         have hb9 : Below wq.heap.size wq W9 := by rw [hW9]; exact alloc_below _ _
         have HX9 : Hid (BxP wq.heap.size x W9) := by unfold Hid BxP; rw [hW9]; exact heap_alloc_new _ _
         have HB9 := hid hb9
         clear h4 hPT hqr hqe hb9 hW9
         go_upto_region 19 with (fail)
         rw [← HW9.out]
         clear x0 x1 x2 x3 x4 x5 x6 x7 x8 x9 x10
         go_cut [] from 80 to 87 (fun wx => ∃ x' : PcR, BxP wq.heap.size x' wx ∧ PcOk wx W.heap.size x' ∧ x'.pl = x.pl ∧ Below wq.heap.size wq wx)
         case first =>
          --<A
          obtain ⟨wd, hwd⟩ : ∃ wd, wd = W9.drew := ⟨_, rfl⟩
          have hbd : Below wq.heap.size wq wd := by rw [hwd]; exact HB9.out.drew
          have hxd : BxP wq.heap.size x wd := by rw [hwd]; exact HX9.out
          have HBD := hid hbd
          have HXD := hid hxd
          have hzq : wq.heap.size < wd.heap.size := (Array.getElem?_eq_some_iff.1 hxd).1
          have HCL := hid (clone_any x.l (HRD.out.op.below HBD.out))
          unfold LnR.cells Sl.val at HCL
          have HBC : Hid (∀ w2, Below wd.heap.size wd w2 → Calls Try.prog 29 #[.slice x.b.p x.b.l.length x.b.c] w2 (BCloneT w2 x.b)) := fun w2 h2 => bclone_any x.b ((HRD.out.b.below HBD.out).below h2)
          obtain ⟨-, -, -, b3, b4, -, -, -, -, b9, -⟩ := box_cells hxd
          have b3 := b3
          unfold Sl.val at b4 b9
          clear hbd hxd
          refine wp_region_held_drew (S := fun _ => True) (by kernel_rfl) trivial (fun hHeld => ?_)
          rw [← hwd] at *
          refine wpAnyH_take (i := 0) (oi := { dst := some 80, op := Op.fieldAddr 64 (Operand.tmp 14) 3, type := 0, pos := "frag.go:162", after := #[], guard := none }) (v := ?pev0) rfl (by kernel_rfl) (by kernel_rfl) (by kernel_rfl) (fun _ _ _ h => h) (Or.inl ⟨by rfl, ?peh0⟩) (by assumption) ?per0
          case peh0 => ((intro w hSw; (try dsimp only at hSw); go_simp); try with_reducible rfl)
          try simp only [Act.put, List.setIfInBounds_toArray, List.set_cons_zero, List.set_cons_succ]
          refine wpAnyH_take (i := 3) (oi := { dst := some 83, op := Op.fieldAddr 64 (Operand.tmp 14) 6, type := 0, pos := "frag.go:162", after := #[], guard := none }) (v := ?pev3) rfl (by kernel_rfl) (by kernel_rfl) (by kernel_rfl) (fun _ _ _ h => h) (Or.inl ⟨by rfl, ?peh3⟩) (by assumption) ?per3
          case peh3 => ((intro w hSw; (try dsimp only at hSw); go_simp); try with_reducible rfl)
          try simp only [Act.put, List.setIfInBounds_toArray, List.set_cons_zero, List.set_cons_succ]
          refine wpAnyH_ready (rs := [1, 4]) (by kernel_rfl) (by simp) ?_
          refine AllReadyH.cons (o := { dst := some 81, op := Op.load 25 (Operand.tmp 80), type := 25, pos := "frag.go:162", after := #[{ on := 0, ground := Ground.data }], guard := none }) rfl (fun K hK => ?_) ?_
          ·go_simp; refine hK.out _ _ trivial (fun hHeld => ?_)
           clear hK K
           try simp only [Act.put, List.setIfInBounds_toArray, List.set_cons_zero, List.set_cons_succ]
           refine wpAnyH_ready (rs := [2, 4]) (by kernel_rfl) (by simp) ?_
           refine AllReadyH.cons (o := { dst := some 82, op := Op.call { callee := Callee.value (Operand.func 28), args := #[Operand.tmp 81], argTypes := #[25] }, type := 25, pos := "frag.go:162", after := #[{ on := 1, ground := Ground.data }], guard := none }) rfl (fun K hK => ?_) ?_
           ·go_simp; go_at_call 28; (with_reducible refine HCL.out.mono ?_); rintro e w2 ⟨⟨lp, lc, rfl, hsl, htl⟩, hb2⟩; have b9 := (hb2.cell (p := ⟨wq.heap.size, 9, none⟩) hzq).trans b9; have HB2 := hid hb2; have HSL := hid hsl; have HTL := hid htl; clear hb2 hsl htl; refine hK.out _ _ trivial (fun hHeld => ?_)
            clear hK K
            try simp only [Act.put, List.setIfInBounds_toArray, List.set_cons_zero, List.set_cons_succ]
            refine wpAnyH_ready (rs := [4]) (by kernel_rfl) (by simp) ?_
            refine AllReadyH.cons (o := { dst := some 84, op := Op.load 55 (Operand.tmp 83), type := 55, pos := "frag.go:162", after := #[{ on := 3, ground := Ground.data }], guard := none }) rfl (fun K hK => ?_) AllReadyH.nil
            go_simp; refine hK.out _ _ trivial (fun hHeld => ?_)
            clear hK K
            try simp only [Act.put, List.setIfInBounds_toArray, List.set_cons_zero, List.set_cons_succ]
            refine wpAnyH_take (i := 6) (oi := { dst := some 86, op := Op.fieldAddr 64 (Operand.tmp 14) 3, type := 0, pos := "frag.go:162", after := #[{ on := 0, ground := Ground.phase }, { on := 1, ground := Ground.phase }, { on := 2, ground := Ground.phase }, { on := 3, ground := Ground.phase }, { on := 4, ground := Ground.phase }, { on := 5, ground := Ground.textOnly Departure.lateStoresUnsure }], guard := none }) (v := ?peaav6) rfl (by kernel_rfl) (by kernel_rfl) (by kernel_rfl) (fun _ _ _ h => h) (Or.inl ⟨by rfl, ?peaah6⟩) (by assumption) ?peaar6
            case peaah6 => ((intro w hSw; (try dsimp only at hSw); go_simp); try with_reducible rfl)
            try simp only [Act.put, List.setIfInBounds_toArray, List.set_cons_zero, List.set_cons_succ]
            refine wpAnyH_ready (rs := [5]) (by kernel_rfl) (by simp) ?_
            refine AllReadyH.cons (o := { dst := some 85, op := Op.call { callee := Callee.value (Operand.func 29), args := #[Operand.tmp 84], argTypes := #[55] }, type := 55, pos := "frag.go:162", after := #[{ on := 4, ground := Ground.data }, { on := 2, ground := Ground.chain }], guard := none }) rfl (fun K hK => ?_) AllReadyH.nil
            go_simp; go_at_call 29; (with_reducible refine (HBC.out w2 HB2.out).mono ?_); rintro e w3 ⟨⟨bp, bc, rfl, hsb, htb⟩, hb3⟩; have hx3 := (hb3.block _ (Nat.lt_of_lt_of_le hzq HB2.out.size)).trans ((HB2.out.block _ hzq).trans HXD.out); have c3 := cell_of_row _ _ 3 _ _ _ hx3; have c4 := cell_of_row _ _ 4 _ _ _ hx3; have c9 := cell_of_row _ _ 9 _ _ _ hx3; have f3 := frozen_of_row _ _ 3 _ _ hx3; have f4 := frozen_of_row _ _ 4 _ _ hx3; have f9 := frozen_of_row _ _ 9 _ _ hx3; simp only [PcR.cells, List.getElem?_toArray, List.getElem?_cons_zero, List.getElem?_cons_succ] at c3 c4 c9; have HB3 := hid hb3; have HSB := hid hsb; have HTB := hid htb; clear hb3 hsb htb hx3; refine hK.out _ _ trivial (fun hHeld => ?_)
            clear hK K
            try simp only [Act.put, List.setIfInBounds_toArray, List.set_cons_zero, List.set_cons_succ]
            refine wpAnyH_ready (rs := [7]) (by kernel_rfl) (by simp) ?_
            refine AllReadyH.cons (o := { dst := none, op := Op.store 25 (Operand.tmp 86) (Operand.tmp 82), type := 0, pos := "frag.go:162", after := #[{ on := 6, ground := Ground.data }, { on := 2, ground := Ground.data }, { on := 5, ground := Ground.chain }, { on := 0, ground := Ground.phase }, { on := 1, ground := Ground.phase }, { on := 2, ground := Ground.phase }, { on := 3, ground := Ground.phase }, { on := 4, ground := Ground.phase }, { on := 5, ground := Ground.textOnly Departure.lateStoresUnsure }], guard := none }) rfl (fun K hK => ?_) AllReadyH.nil
            go_simp; refine hK.out _ _ trivial (fun hHeld => ?_)
            clear hK K
            try simp only [Act.put, List.setIfInBounds_toArray, List.set_cons_zero, List.set_cons_succ]
            refine wpAnyH_take (i := 8) (oi := { dst := some 87, op := Op.fieldAddr 64 (Operand.tmp 14) 6, type := 0, pos := "frag.go:162", after := #[{ on := 0, ground := Ground.phase }, { on := 1, ground := Ground.phase }, { on := 2, ground := Ground.phase }, { on := 3, ground := Ground.phase }, { on := 4, ground := Ground.phase }, { on := 5, ground := Ground.phase }, { on := 6, ground := Ground.phase }, { on := 7, ground := Ground.phase }], guard := none }) (v := ?peaav8) rfl (by kernel_rfl) (by kernel_rfl) (by kernel_rfl) (fun _ _ _ h => h) (Or.inl ⟨by rfl, ?peaah8⟩) (by assumption) ?peaar8
            case peaah8 => ((intro w hSw; (try dsimp only at hSw); go_simp); try with_reducible rfl)
            try simp only [Act.put, List.setIfInBounds_toArray, List.set_cons_zero, List.set_cons_succ]
            refine wpAnyH_ready (rs := [9]) (by kernel_rfl) (by simp) ?_
            refine AllReadyH.cons (o := { dst := none, op := Op.store 55 (Operand.tmp 87) (Operand.tmp 85), type := 0, pos := "frag.go:162", after := #[{ on := 8, ground := Ground.data }, { on := 5, ground := Ground.data }, { on := 7, ground := Ground.chain }, { on := 0, ground := Ground.phase }, { on := 1, ground := Ground.phase }, { on := 2, ground := Ground.phase }, { on := 3, ground := Ground.phase }, { on := 4, ground := Ground.phase }, { on := 5, ground := Ground.phase }, { on := 6, ground := Ground.phase }, { on := 7, ground := Ground.phase }], guard := none }) rfl (fun K hK => ?_) AllReadyH.nil
            go_simp; refine hK.out _ _ trivial (fun hHeld => ?_)
            clear hK K
            try simp only [Act.put, List.setIfInBounds_toArray, List.set_cons_zero, List.set_cons_succ]
            refine wpAnyH_done (by kernel_rfl) ?_ _
            go_wp2_with fail
            go_meet
            exact piece_box HXD.out (Nat.le_refl _) HBD.out HB2.out HSL.out HTL.out HB3.out HSB.out HTB.out
           refine AllReadyH.cons (o := { dst := some 84, op := Op.load 55 (Operand.tmp 83), type := 55, pos := "frag.go:162", after := #[{ on := 3, ground := Ground.data }], guard := none }) rfl (fun K hK => ?_) AllReadyH.nil
           go_simp; refine hK.out _ _ trivial (fun hHeld => ?_)
           clear hK K
           try simp only [Act.put, List.setIfInBounds_toArray, List.set_cons_zero, List.set_cons_succ]
           refine wpAnyH_ready (rs := [2]) (by kernel_rfl) (by simp) ?_
           refine AllReadyH.cons (o := { dst := some 82, op := Op.call { callee := Callee.value (Operand.func 28), args := #[Operand.tmp 81], argTypes := #[25] }, type := 25, pos := "frag.go:162", after := #[{ on := 1, ground := Ground.data }], guard := none }) rfl (fun K hK => ?_) AllReadyH.nil
           go_simp; go_at_call 28; (with_reducible refine HCL.out.mono ?_); rintro e w2 ⟨⟨lp, lc, rfl, hsl, htl⟩, hb2⟩; have b9 := (hb2.cell (p := ⟨wq.heap.size, 9, none⟩) hzq).trans b9; have HB2 := hid hb2; have HSL := hid hsl; have HTL := hid htl; clear hb2 hsl htl; refine hK.out _ _ trivial (fun hHeld => ?_)
           clear hK K
           try simp only [Act.put, List.setIfInBounds_toArray, List.set_cons_zero, List.set_cons_succ]
           refine wpAnyH_take (i := 6) (oi := { dst := some 86, op := Op.fieldAddr 64 (Operand.tmp 14) 3, type := 0, pos := "frag.go:162", after := #[{ on := 0, ground := Ground.phase }, { on := 1, ground := Ground.phase }, { on := 2, ground := Ground.phase }, { on := 3, ground := Ground.phase }, { on := 4, ground := Ground.phase }, { on := 5, ground := Ground.textOnly Departure.lateStoresUnsure }], guard := none }) (v := ?peabv6) rfl (by kernel_rfl) (by kernel_rfl) (by kernel_rfl) (fun _ _ _ h => h) (Or.inl ⟨by rfl, ?peabh6⟩) (by assumption) ?peabr6
           case peabh6 => ((intro w hSw; (try dsimp only at hSw); go_simp); try with_reducible rfl)
           try simp only [Act.put, List.setIfInBounds_toArray, List.set_cons_zero, List.set_cons_succ]
           refine wpAnyH_ready (rs := [5]) (by kernel_rfl) (by simp) ?_
           refine AllReadyH.cons (o := { dst := some 85, op := Op.call { callee := Callee.value (Operand.func 29), args := #[Operand.tmp 84], argTypes := #[55] }, type := 55, pos := "frag.go:162", after := #[{ on := 4, ground := Ground.data }, { on := 2, ground := Ground.chain }], guard := none }) rfl (fun K hK => ?_) AllReadyH.nil
           go_simp; go_at_call 29; (with_reducible refine (HBC.out w2 HB2.out).mono ?_); rintro e w3 ⟨⟨bp, bc, rfl, hsb, htb⟩, hb3⟩; have hx3 := (hb3.block _ (Nat.lt_of_lt_of_le hzq HB2.out.size)).trans ((HB2.out.block _ hzq).trans HXD.out); have c3 := cell_of_row _ _ 3 _ _ _ hx3; have c4 := cell_of_row _ _ 4 _ _ _ hx3; have c9 := cell_of_row _ _ 9 _ _ _ hx3; have f3 := frozen_of_row _ _ 3 _ _ hx3; have f4 := frozen_of_row _ _ 4 _ _ hx3; have f9 := frozen_of_row _ _ 9 _ _ hx3; simp only [PcR.cells, List.getElem?_toArray, List.getElem?_cons_zero, List.getElem?_cons_succ] at c3 c4 c9; have HB3 := hid hb3; have HSB := hid hsb; have HTB := hid htb; clear hb3 hsb htb hx3; refine hK.out _ _ trivial (fun hHeld => ?_)
           clear hK K
           try simp only [Act.put, List.setIfInBounds_toArray, List.set_cons_zero, List.set_cons_succ]
           refine wpAnyH_ready (rs := [7]) (by kernel_rfl) (by simp) ?_
           refine AllReadyH.cons (o := { dst := none, op := Op.store 25 (Operand.tmp 86) (Operand.tmp 82), type := 0, pos := "frag.go:162", after := #[{ on := 6, ground := Ground.data }, { on := 2, ground := Ground.data }, { on := 5, ground := Ground.chain }, { on := 0, ground := Ground.phase }, { on := 1, ground := Ground.phase }, { on := 2, ground := Ground.phase }, { on := 3, ground := Ground.phase }, { on := 4, ground := Ground.phase }, { on := 5, ground := Ground.textOnly Departure.lateStoresUnsure }], guard := none }) rfl (fun K hK => ?_) AllReadyH.nil
           go_simp; refine hK.out _ _ trivial (fun hHeld => ?_)
           clear hK K
           try simp only [Act.put, List.setIfInBounds_toArray, List.set_cons_zero, List.set_cons_succ]
           refine wpAnyH_take (i := 8) (oi := { dst := some 87, op := Op.fieldAddr 64 (Operand.tmp 14) 6, type := 0, pos := "frag.go:162", after := #[{ on := 0, ground := Ground.phase }, { on := 1, ground := Ground.phase }, { on := 2, ground := Ground.phase }, { on := 3, ground := Ground.phase }, { on := 4, ground := Ground.phase }, { on := 5, ground := Ground.phase }, { on := 6, ground := Ground.phase }, { on := 7, ground := Ground.phase }], guard := none }) (v := ?peabv8) rfl (by kernel_rfl) (by kernel_rfl) (by kernel_rfl) (fun _ _ _ h => h) (Or.inl ⟨by rfl, ?peabh8⟩) (by assumption) ?peabr8
           case peabh8 => ((intro w hSw; (try dsimp only at hSw); go_simp); try with_reducible rfl)
           try simp only [Act.put, List.setIfInBounds_toArray, List.set_cons_zero, List.set_cons_succ]
           refine wpAnyH_ready (rs := [9]) (by kernel_rfl) (by simp) ?_
           refine AllReadyH.cons (o := { dst := none, op := Op.store 55 (Operand.tmp 87) (Operand.tmp 85), type := 0, pos := "frag.go:162", after := #[{ on := 8, ground := Ground.data }, { on := 5, ground := Ground.data }, { on := 7, ground := Ground.chain }, { on := 0, ground := Ground.phase }, { on := 1, ground := Ground.phase }, { on := 2, ground := Ground.phase }, { on := 3, ground := Ground.phase }, { on := 4, ground := Ground.phase }, { on := 5, ground := Ground.phase }, { on := 6, ground := Ground.phase }, { on := 7, ground := Ground.phase }], guard := none }) rfl (fun K hK => ?_) AllReadyH.nil
           go_simp; refine hK.out _ _ trivial (fun hHeld => ?_)
           clear hK K
           try simp only [Act.put, List.setIfInBounds_toArray, List.set_cons_zero, List.set_cons_succ]
           refine wpAnyH_done (by kernel_rfl) ?_ _
           go_wp2_with fail
           go_meet
           exact piece_box HXD.out (Nat.le_refl _) HBD.out HB2.out HSL.out HTL.out HB3.out HSB.out HTB.out
          refine AllReadyH.cons (o := { dst := some 84, op := Op.load 55 (Operand.tmp 83), type := 55, pos := "frag.go:162", after := #[{ on := 3, ground := Ground.data }], guard := none }) rfl (fun K hK => ?_) AllReadyH.nil
          go_simp; refine hK.out _ _ trivial (fun hHeld => ?_)
          clear hK K
          try simp only [Act.put, List.setIfInBounds_toArray, List.set_cons_zero, List.set_cons_succ]
          refine wpAnyH_ready (rs := [1]) (by kernel_rfl) (by simp) ?_
          refine AllReadyH.cons (o := { dst := some 81, op := Op.load 25 (Operand.tmp 80), type := 25, pos := "frag.go:162", after := #[{ on := 0, ground := Ground.data }], guard := none }) rfl (fun K hK => ?_) AllReadyH.nil
          go_simp; refine hK.out _ _ trivial (fun hHeld => ?_)
          clear hK K
          try simp only [Act.put, List.setIfInBounds_toArray, List.set_cons_zero, List.set_cons_succ]
          refine wpAnyH_ready (rs := [2]) (by kernel_rfl) (by simp) ?_
          refine AllReadyH.cons (o := { dst := some 82, op := Op.call { callee := Callee.value (Operand.func 28), args := #[Operand.tmp 81], argTypes := #[25] }, type := 25, pos := "frag.go:162", after := #[{ on := 1, ground := Ground.data }], guard := none }) rfl (fun K hK => ?_) AllReadyH.nil
          go_simp; go_at_call 28; (with_reducible refine HCL.out.mono ?_); rintro e w2 ⟨⟨lp, lc, rfl, hsl, htl⟩, hb2⟩; have b9 := (hb2.cell (p := ⟨wq.heap.size, 9, none⟩) hzq).trans b9; have HB2 := hid hb2; have HSL := hid hsl; have HTL := hid htl; clear hb2 hsl htl; refine hK.out _ _ trivial (fun hHeld => ?_)
          clear hK K
          try simp only [Act.put, List.setIfInBounds_toArray, List.set_cons_zero, List.set_cons_succ]
          refine wpAnyH_take (i := 6) (oi := { dst := some 86, op := Op.fieldAddr 64 (Operand.tmp 14) 3, type := 0, pos := "frag.go:162", after := #[{ on := 0, ground := Ground.phase }, { on := 1, ground := Ground.phase }, { on := 2, ground := Ground.phase }, { on := 3, ground := Ground.phase }, { on := 4, ground := Ground.phase }, { on := 5, ground := Ground.textOnly Departure.lateStoresUnsure }], guard := none }) (v := ?pebv6) rfl (by kernel_rfl) (by kernel_rfl) (by kernel_rfl) (fun _ _ _ h => h) (Or.inl ⟨by rfl, ?pebh6⟩) (by assumption) ?pebr6
          case pebh6 => ((intro w hSw; (try dsimp only at hSw); go_simp); try with_reducible rfl)
          try simp only [Act.put, List.setIfInBounds_toArray, List.set_cons_zero, List.set_cons_succ]
          refine wpAnyH_ready (rs := [5]) (by kernel_rfl) (by simp) ?_
          refine AllReadyH.cons (o := { dst := some 85, op := Op.call { callee := Callee.value (Operand.func 29), args := #[Operand.tmp 84], argTypes := #[55] }, type := 55, pos := "frag.go:162", after := #[{ on := 4, ground := Ground.data }, { on := 2, ground := Ground.chain }], guard := none }) rfl (fun K hK => ?_) AllReadyH.nil
          go_simp; go_at_call 29; (with_reducible refine (HBC.out w2 HB2.out).mono ?_); rintro e w3 ⟨⟨bp, bc, rfl, hsb, htb⟩, hb3⟩; have hx3 := (hb3.block _ (Nat.lt_of_lt_of_le hzq HB2.out.size)).trans ((HB2.out.block _ hzq).trans HXD.out); have c3 := cell_of_row _ _ 3 _ _ _ hx3; have c4 := cell_of_row _ _ 4 _ _ _ hx3; have c9 := cell_of_row _ _ 9 _ _ _ hx3; have f3 := frozen_of_row _ _ 3 _ _ hx3; have f4 := frozen_of_row _ _ 4 _ _ hx3; have f9 := frozen_of_row _ _ 9 _ _ hx3; simp only [PcR.cells, List.getElem?_toArray, List.getElem?_cons_zero, List.getElem?_cons_succ] at c3 c4 c9; have HB3 := hid hb3; have HSB := hid hsb; have HTB := hid htb; clear hb3 hsb htb hx3; refine hK.out _ _ trivial (fun hHeld => ?_)
          clear hK K
          try simp only [Act.put, List.setIfInBounds_toArray, List.set_cons_zero, List.set_cons_succ]
          refine wpAnyH_ready (rs := [7]) (by kernel_rfl) (by simp) ?_
          refine AllReadyH.cons (o := { dst := none, op := Op.store 25 (Operand.tmp 86) (Operand.tmp 82), type := 0, pos := "frag.go:162", after := #[{ on := 6, ground := Ground.data }, { on := 2, ground := Ground.data }, { on := 5, ground := Ground.chain }, { on := 0, ground := Ground.phase }, { on := 1, ground := Ground.phase }, { on := 2, ground := Ground.phase }, { on := 3, ground := Ground.phase }, { on := 4, ground := Ground.phase }, { on := 5, ground := Ground.textOnly Departure.lateStoresUnsure }], guard := none }) rfl (fun K hK => ?_) AllReadyH.nil
          go_simp; refine hK.out _ _ trivial (fun hHeld => ?_)
          clear hK K
          try simp only [Act.put, List.setIfInBounds_toArray, List.set_cons_zero, List.set_cons_succ]
          refine wpAnyH_take (i := 8) (oi := { dst := some 87, op := Op.fieldAddr 64 (Operand.tmp 14) 6, type := 0, pos := "frag.go:162", after := #[{ on := 0, ground := Ground.phase }, { on := 1, ground := Ground.phase }, { on := 2, ground := Ground.phase }, { on := 3, ground := Ground.phase }, { on := 4, ground := Ground.phase }, { on := 5, ground := Ground.phase }, { on := 6, ground := Ground.phase }, { on := 7, ground := Ground.phase }], guard := none }) (v := ?pebv8) rfl (by kernel_rfl) (by kernel_rfl) (by kernel_rfl) (fun _ _ _ h => h) (Or.inl ⟨by rfl, ?pebh8⟩) (by assumption) ?pebr8
          case pebh8 => ((intro w hSw; (try dsimp only at hSw); go_simp); try with_reducible rfl)
          try simp only [Act.put, List.setIfInBounds_toArray, List.set_cons_zero, List.set_cons_succ]
          refine wpAnyH_ready (rs := [9]) (by kernel_rfl) (by simp) ?_
          refine AllReadyH.cons (o := { dst := none, op := Op.store 55 (Operand.tmp 87) (Operand.tmp 85), type := 0, pos := "frag.go:162", after := #[{ on := 8, ground := Ground.data }, { on := 5, ground := Ground.data }, { on := 7, ground := Ground.chain }, { on := 0, ground := Ground.phase }, { on := 1, ground := Ground.phase }, { on := 2, ground := Ground.phase }, { on := 3, ground := Ground.phase }, { on := 4, ground := Ground.phase }, { on := 5, ground := Ground.phase }, { on := 6, ground := Ground.phase }, { on := 7, ground := Ground.phase }], guard := none }) rfl (fun K hK => ?_) AllReadyH.nil
          go_simp; refine hK.out _ _ trivial (fun hHeld => ?_)
          clear hK K
          try simp only [Act.put, List.setIfInBounds_toArray, List.set_cons_zero, List.set_cons_succ]
          refine wpAnyH_done (by kernel_rfl) ?_ _
          go_wp2_with fail
          go_meet
          exact piece_box HXD.out (Nat.le_refl _) HBD.out HB2.out HSL.out HTL.out HB3.out HSB.out HTB.out
          --A>
         case rest =>
          rename World => wz
          obtain ⟨x', hx9, hok9, hpl9, hb9⟩ := hcut
          obtain ⟨z4, hz4⟩ := H4.out.at hil2
          obtain ⟨wd, hwd⟩ : ∃ wd, wd = wz.drew := ⟨_, rfl⟩
          have hbd : Below wq.heap.size wq wd := by rw [hwd]; exact hb9.drew
          have hxd : BxP wq.heap.size x' wd := by rw [hwd]; exact hx9
          have hokd : PcOk wd W.heap.size x' := by rw [hwd]; exact hok9.lies (Lies.below _ (Below.refl _ _).drew (Nat.le_trans H4.out.ji.jb.hz hb9.size))
          have hjd := H4.out.ji.below hbd
          obtain ⟨g4, c4, hpv4, hg3, hf3, hgl, hgt, hge, -⟩ := hjd.jb.part hz4
          have hob := hjd.jb.head
          rw [hpv4] at hob
          have hzo := H4.out.ji.jb.is.pcs i z4 hz4
          have hzl : z4.pieces.l.length ≤ 2000000 := by have := H4.out.sm.pcs z4 (List.mem_of_getElem? hz4); omega
          have hlen4 : X4.ps.length = X2.ps.length := by have h1 := congrArg List.length H4.out.ps; rw [List.length_map, List.length_modify, List.length_map] at h1; exact h1
          have HFIN : Hid (∀ (o : Obj) (w5 : World) (p5 : Option Addr) (c5 : Nat), _ → _ → _ → _) := H4.out.fin hbd hz4 hpv4 HTM.out hpl9 hokd
          obtain ⟨s, hs⟩ : ∃ s, s = z4.pieces := ⟨_, rfl⟩
          rw [← hs] at hzo hg3 hzl HFIN
          obtain ⟨zp4, zc4, zl4⟩ := s
          have HFIN : Hid (∀ (o : Obj) (w5 : World) (p5 : Option Addr) (c5 : Nat), w5.ownsRow W.heap.size 64 11 (.slice p5 (zl4.length + 1) c5) (zl4.length + 1) (zl4.flatMap PcR.cells ++ x'.cells) → (wd.alloc o).grownBy w5 (Value.slice zp4 zl4.length zc4).ownBlock → Stayed (wd.alloc o) (.slice zp4 zl4.length zc4) (.slice p5 (zl4.length + 1) c5) →
           ∃ X5, XJI W X2 i y.pieces.l nn (m + 1) X5 w8 (w5.setCell ⟨g4, i * 4 + 3, none⟩ (.slice p5 (zl4.length + 1) c5))) := HFIN
          have hg3 : wd.cell? ⟨g4, i * 4 + 3, none⟩ = some (.slice zp4 zl4.length zc4) := hg3
          have hzl : zl4.length ≤ 2000000 := hzl
          have HZO : Hid (wd.ownsRow W.heap.size 64 11 (.slice zp4 zl4.length zc4) zl4.length (zl4.flatMap PcR.cells)) := own_below hzo hbd
          have HZL : Hid (∀ q, (Value.slice zp4 zl4.length zc4).ownBlock = some q → q < wq.heap.size) := own_lt hzo
          have HZT : Hid (∀ q, (Value.slice zp4 zl4.length zc4).ownBlock = some q → tagAt wd q = some (64 + 1)) := fun q hq => own_tag HZO.out hq
          have hobl : W.heap.size + 1 < wd.heap.size := hjd.jb.lt
          have hbxl : wq.heap.size < wd.heap.size := (Array.getElem?_eq_some_iff.1 hxd).1
          have HNS : Hid (∀ q, (Value.slice zp4 zl4.length zc4).ownBlock = some q → q ≠ W.heap.size + 1 ∧ q ≠ wq.heap.size) := fun q hq => ⟨tag_ne (HZT.out q hq) hjd.jb.tag (by decide), by have := HZL.out q hq; omega⟩
          have HGN : Hid (g4 ≠ W.heap.size + 1 ∧ g4 ≠ wq.heap.size) := ⟨tag_ne hgt hjd.jb.tag (by decide), tag_ne hgt (tag_row hxd) (by decide)⟩
          have HSA : Hid (∀ (w : World) (o : Obj), SameAt (W.heap.size + 1) wq.heap.size wd w → SameAt (W.heap.size + 1) wq.heap.size wd (w.alloc o)) := fun w o h => h.alloc hobl hbxl o
          have HSG : Hid (∀ (w w' : World), SameAt (W.heap.size + 1) wq.heap.size wd w → w.grownBy w' (Value.slice zp4 zl4.length zc4).ownBlock → SameAt (W.heap.size + 1) wq.heap.size wd w') := fun w w' h hg => h.grown hobl hbxl hg HNS.out
          have HSS : Hid (∀ (w : World) (k : Nat) (v : Value), SameAt (W.heap.size + 1) wq.heap.size wd w → SameAt (W.heap.size + 1) wq.heap.size wd (w.setCell ⟨g4, k, none⟩ v)) := fun w k v h => ⟨by have := h.sz; simp; exact this, (heap_setCell_other _ _ _ _ (Ne.symm HGN.out.1)).trans h.a, (heap_setCell_other _ _ _ _ (Ne.symm HGN.out.2)).trans h.b⟩
          have HSC : Hid (∀ (o : Obj) (w5 : World), (wd.alloc o).grownBy w5 (Value.slice zp4 zl4.length zc4).ownBlock → w5.cell? ⟨g4, i * 4 + 3, none⟩ = some (.slice zp4 zl4.length zc4) ∧ w5.frozen? ⟨g4, i * 4 + 3, none⟩ = false) := fun o w5 hg => by
           have e : w5.heap[g4]? = wd.heap[g4]? := (hg.block g4 (by simp; omega) (fun e => tag_ne (HZT.out g4 e.symm) hgt (by decide) rfl)).trans (Below.heap_alloc _ _ _ hgl)
           exact ⟨(World.cell?_of_block (a := ⟨g4, i * 4 + 3, none⟩) e).trans hg3, (World.frozen?_of_block (a := ⟨g4, i * 4 + 3, none⟩) e).trans hf3⟩
          have d3L : ∀ o : Obj, (wd.alloc o).cell? ⟨g4, i * 4 + 3, none⟩ = some (.slice zp4 zl4.length zc4) := fun o => (World.cell?_of_block (a := ⟨g4, i * 4 + 3, none⟩) (Below.heap_alloc wd o g4 hgl)).trans hg3
          have HXD := hid hxd
          have HOB := hid hob
          have aks : ∀ w' : World, SameAt (W.heap.size + 1) wq.heap.size wd w' → BxP wq.heap.size x' w' := fun w' h => h.b.trans HXD.out
          have k0 : ∀ w' : World, SameAt (W.heap.size + 1) wq.heap.size wd w' → w'.cell? ⟨W.heap.size + 1, 0, none⟩ = some (.slice (some ⟨g4, 0, none⟩) X4.ps.length c4) := fun w' h => cell_of_row _ _ 0 _ _ _ (h.a.trans HOB.out)
          have x0 : ∀ w' : World, SameAt (W.heap.size + 1) wq.heap.size wd w' → w'.cell? ⟨wq.heap.size, 0, none⟩ = some (.int .i64 x'.kind) := fun w' h => (box_cells (aks w' h)).1
          have x1 : ∀ w' : World, SameAt (W.heap.size + 1) wq.heap.size wd w' → w'.cell? ⟨wq.heap.size, 1, none⟩ = some (.int .i64 x'.file) := fun w' h => (box_cells (aks w' h)).2.1
          have x2 : ∀ w' : World, SameAt (W.heap.size + 1) wq.heap.size wd w' → w'.cell? ⟨wq.heap.size, 2, none⟩ = some (.int .i64 x'.line) := fun w' h => (box_cells (aks w' h)).2.2.1
          have x3 : ∀ w' : World, SameAt (W.heap.size + 1) wq.heap.size wd w' → w'.cell? ⟨wq.heap.size, 3, none⟩ = some (.string x'.l.name) := fun w' h => (box_cells (aks w' h)).2.2.2.1
          have x4 : ∀ w' : World, SameAt (W.heap.size + 1) wq.heap.size wd w' → w'.cell? ⟨wq.heap.size, 4, none⟩ = some x'.l.opers.val := fun w' h => (box_cells (aks w' h)).2.2.2.2.1
          have x5 : ∀ w' : World, SameAt (W.heap.size + 1) wq.heap.size wd w' → w'.cell? ⟨wq.heap.size, 5, none⟩ = some (.int .i64 x'.v.add) := fun w' h => (box_cells (aks w' h)).2.2.2.2.2.1
          have x6 : ∀ w' : World, SameAt (W.heap.size + 1) wq.heap.size wd w' → w'.cell? ⟨wq.heap.size, 6, none⟩ = some (.string x'.v.plus) := fun w' h => (box_cells (aks w' h)).2.2.2.2.2.2.1
          have x7 : ∀ w' : World, SameAt (W.heap.size + 1) wq.heap.size wd w' → w'.cell? ⟨wq.heap.size, 7, none⟩ = some (.string x'.v.minus) := fun w' h => (box_cells (aks w' h)).2.2.2.2.2.2.2.1
          have x8 : ∀ w' : World, SameAt (W.heap.size + 1) wq.heap.size wd w' → w'.cell? ⟨wq.heap.size, 8, none⟩ = some (.int .i64 x'.size) := fun w' h => (box_cells (aks w' h)).2.2.2.2.2.2.2.2.1
          have x9 : ∀ w' : World, SameAt (W.heap.size + 1) wq.heap.size wd w' → w'.cell? ⟨wq.heap.size, 9, none⟩ = some x'.b.val := fun w' h => (box_cells (aks w' h)).2.2.2.2.2.2.2.2.2.1
          have x10 : ∀ w' : World, SameAt (W.heap.size + 1) wq.heap.size wd w' → w'.cell? ⟨wq.heap.size, 10, none⟩ = some (.int .i64 x'.align) := fun w' h => (box_cells (aks w' h)).2.2.2.2.2.2.2.2.2.2
          have hil4 : (i : Int) < X4.ps.length := by omega
          have hil5 : i < X4.ps.length := by omega
          have hbwd : W.heap.size ≤ wd.heap.size := Nat.le_trans H4.out.ji.jb.hz hbd.size
          have HH0 : Hid (SameAt (W.heap.size + 1) wq.heap.size wd wd) := ⟨Nat.le_refl _, rfl, rfl⟩
          clear aks hok9 hx9 hpl9 hb9 hbd hxd hokd hjd hpv4 hf3 hgt hge hob hzo hs hz4 hil hil2 hlen4
          go_upto_region 20 with (fail)
          --<A
          refine wp_region_held_drew (S := SameAt (W.heap.size + 1) wq.heap.size wd) (by kernel_rfl) (by rw [← hwd]; exact HH0.out) (fun hHeld => ?_)
          rw [← hwd] at *
          refine wpAnyH_take (i := 0) (oi := { dst := some 88, op := Op.fieldAddr 32 (Operand.tmp 3) 0, type := 0, pos := "frag.go:163", after := #[], guard := none }) (v := ?pgv0) rfl (by kernel_rfl) (by kernel_rfl) (by kernel_rfl) (fun _ _ _ h => h) (Or.inl ⟨by rfl, ?pgh0⟩) (by assumption) ?pgr0
          case pgh0 => ((intro w hSw; (try dsimp only at hSw); go_simp); try with_reducible rfl)
          try simp only [Act.put, List.setIfInBounds_toArray, List.set_cons_zero, List.set_cons_succ]
          refine wpAnyH_take (i := 1) (oi := { dst := some 89, op := Op.load 28 (Operand.tmp 88), type := 28, pos := "frag.go:163", after := #[{ on := 0, ground := Ground.data }], guard := none }) (v := ?pgv1) rfl (by kernel_rfl) (by kernel_rfl) (by kernel_rfl) (fun _ _ _ h => h) (Or.inl ⟨by rfl, ?pgh1⟩) (by assumption) ?pgr1
          case pgh1 => ((intro w hSw; (try dsimp only at hSw); go_simp); try with_reducible rfl)
          try simp only [Act.put, List.setIfInBounds_toArray, List.set_cons_zero, List.set_cons_succ]
          refine wpAnyH_take (i := 2) (oi := { dst := some 90, op := Op.move (Operand.tmp 11), type := 3, pos := "frag.go:163", after := #[], guard := none }) (v := ?pgv2) rfl (by kernel_rfl) (by kernel_rfl) (by kernel_rfl) (fun _ _ _ h => h) (Or.inl ⟨by rfl, ?pgh2⟩) (by assumption) ?pgr2
          case pgh2 => ((intro w hSw; (try dsimp only at hSw); go_simp); try with_reducible rfl)
          try simp only [Act.put, List.setIfInBounds_toArray, List.set_cons_zero, List.set_cons_succ]
          refine wpAnyH_take (i := 3) (oi := { dst := some 91, op := Op.fieldAddr 32 (Operand.tmp 3) 0, type := 0, pos := "frag.go:163", after := #[], guard := none }) (v := ?pgv3) rfl (by kernel_rfl) (by kernel_rfl) (by kernel_rfl) (fun _ _ _ h => h) (Or.inl ⟨by rfl, ?pgh3⟩) (by assumption) ?pgr3
          case pgh3 => ((intro w hSw; (try dsimp only at hSw); go_simp); try with_reducible rfl)
          try simp only [Act.put, List.setIfInBounds_toArray, List.set_cons_zero, List.set_cons_succ]
          refine wpAnyH_take (i := 4) (oi := { dst := some 92, op := Op.load 28 (Operand.tmp 91), type := 28, pos := "frag.go:163", after := #[{ on := 3, ground := Ground.data }], guard := none }) (v := ?pgv4) rfl (by kernel_rfl) (by kernel_rfl) (by kernel_rfl) (fun _ _ _ h => h) (Or.inl ⟨by rfl, ?pgh4⟩) (by assumption) ?pgr4
          case pgh4 => ((intro w hSw; (try dsimp only at hSw); go_simp); try with_reducible rfl)
          try simp only [Act.put, List.setIfInBounds_toArray, List.set_cons_zero, List.set_cons_succ]
          refine wpAnyH_take (i := 5) (oi := { dst := some 93, op := Op.move (Operand.tmp 11), type := 3, pos := "frag.go:163", after := #[], guard := none }) (v := ?pgv5) rfl (by kernel_rfl) (by kernel_rfl) (by kernel_rfl) (fun _ _ _ h => h) (Or.inl ⟨by rfl, ?pgh5⟩) (by assumption) ?pgr5
          case pgh5 => ((intro w hSw; (try dsimp only at hSw); go_simp); try with_reducible rfl)
          try simp only [Act.put, List.setIfInBounds_toArray, List.set_cons_zero, List.set_cons_succ]
          refine wpAnyH_take (i := 6) (oi := { dst := some 94, op := Op.indexAddr 28 (Operand.tmp 92) (Operand.tmp 93), type := 0, pos := "frag.go:163", after := #[{ on := 4, ground := Ground.data }, { on := 5, ground := Ground.data }], guard := none }) (v := ?pgv6) rfl (by kernel_rfl) (by kernel_rfl) (by kernel_rfl) (fun _ _ _ h => h) (Or.inl ⟨by rfl, ?pgh6⟩) (by assumption) ?pgr6
          case pgh6 => ((intro w hSw; (try dsimp only at hSw); go_simp); try with_reducible rfl)
          try simp only [Act.put, List.setIfInBounds_toArray, List.set_cons_zero, List.set_cons_succ]
          refine wpAnyH_take (i := 7) (oi := { dst := some 95, op := Op.fieldAddr 50 (Operand.tmp 94) 3, type := 0, pos := "frag.go:163", after := #[{ on := 6, ground := Ground.data }], guard := none }) (v := ?pgv7) rfl (by kernel_rfl) (by kernel_rfl) (by kernel_rfl) (fun _ _ _ h => h) (Or.inl ⟨by rfl, ?pgh7⟩) (by assumption) ?pgr7
          case pgh7 => ((intro w hSw; (try dsimp only at hSw); go_simp); try with_reducible rfl)
          try simp only [Act.put, List.setIfInBounds_toArray, List.set_cons_zero, List.set_cons_succ]
          refine wpAnyH_take (i := 9) (oi := { dst := some 97, op := Op.load 64 (Operand.tmp 14), type := 64, pos := "frag.go:163", after := #[], guard := none }) (v := ?pgv9) rfl (by kernel_rfl) (by kernel_rfl) (by kernel_rfl) (fun _ _ _ h => h) (Or.inl ⟨by rfl, ?pgh9⟩) (by assumption) ?pgr9
          case pgh9 => ((intro w hSw; (try dsimp only at hSw); go_simp); try with_reducible rfl)
          try simp only [Act.put, List.setIfInBounds_toArray, List.set_cons_zero, List.set_cons_succ]
          refine wpAnyH_ready (rs := [8, 10]) (by kernel_rfl) (by simp) ?_
          refine AllReadyH.cons (o := { dst := some 96, op := Op.load 48 (Operand.tmp 95), type := 48, pos := "frag.go:163", after := #[{ on := 7, ground := Ground.data }], guard := none }) rfl (fun K hK => ?_) ?_
          ·go_simp; refine hK.out _ _ hHeld (fun hHeld => ?_)
           clear hK K
           try simp only [Act.put, List.setIfInBounds_toArray, List.set_cons_zero, List.set_cons_succ]
           refine wpAnyH_ready (rs := [10]) (by kernel_rfl) (by simp) ?_
           refine AllReadyH.cons (o := { dst := some 98, op := Op.buildSlice 48 1 #[(0, Operand.tmp 97)], type := 48, pos := "frag.go:163", after := #[{ on := 9, ground := Ground.data }], guard := none }) rfl (fun K hK => ?_) AllReadyH.nil
           go_simp; refine hK.out _ _ (HSA.out _ _ hHeld) (fun hHeld => ?_)
           clear hK K
           try simp only [Act.put, List.setIfInBounds_toArray, List.set_cons_zero, List.set_cons_succ]
           refine wpAnyH_ready (rs := [11]) (by kernel_rfl) (by simp) ?_
           refine AllReadyH.cons (o := { dst := some 99, op := Op.call { callee := Callee.builtin Builtin.append, args := #[Operand.tmp 96, Operand.tmp 98], argTypes := #[48, 48] }, type := 48, pos := "frag.go:163", after := #[{ on := 8, ground := Ground.data }, { on := 10, ground := Ground.data }], guard := none }) rfl (fun K hK => ?_) AllReadyH.nil
           (refine step_app EPiece rfl (.tmp 96) (.tmp 98) rfl W.heap.size (.slice zp4 zl4.length zc4) zl4.length (zl4.flatMap PcR.cells) rfl (HZO.out.alloc _) _ 1 1 x'.cells rfl rfl (row_newAt _ _ _ _ rfl) (pcr_ones _) (by unfold maxLen; omega) (by omega) (by simp; omega) ?_); intro v5 w5 ho5 hg5 hs5; obtain ⟨p5, c5, rfl, -⟩ := own_shape ho5; obtain ⟨t3, t4⟩ := HSC.out _ _ hg5; have HF5 := hid (HFIN.out _ _ _ _ ho5 hg5 hs5); have HG5 := hid hg5; clear ho5 hg5 hs5; refine hK.out _ _ (HSG.out _ _ hHeld HG5.out) (fun hHeld => ?_)
           clear hK K
           try simp only [Act.put, List.setIfInBounds_toArray, List.set_cons_zero, List.set_cons_succ]
           refine wpAnyH_take (i := 12) (oi := { dst := some 100, op := Op.indexAddr 28 (Operand.tmp 89) (Operand.tmp 90), type := 0, pos := "frag.go:163", after := #[{ on := 1, ground := Ground.data }, { on := 2, ground := Ground.data }, { on := 0, ground := Ground.phase }, { on := 1, ground := Ground.phase }, { on := 2, ground := Ground.phase }, { on := 3, ground := Ground.phase }, { on := 4, ground := Ground.phase }, { on := 5, ground := Ground.phase }, { on := 6, ground := Ground.phase }, { on := 7, ground := Ground.phase }, { on := 8, ground := Ground.phase }, { on := 9, ground := Ground.phase }, { on := 10, ground := Ground.phase }, { on := 11, ground := Ground.phase }], guard := none }) (v := ?pgav12) rfl (by kernel_rfl) (by kernel_rfl) (by kernel_rfl) (fun _ _ _ h => h) (Or.inl ⟨by rfl, ?pgah12⟩) (by assumption) ?pgar12
           case pgah12 => ((intro w hSw; (try dsimp only at hSw); go_simp); try with_reducible rfl)
           try simp only [Act.put, List.setIfInBounds_toArray, List.set_cons_zero, List.set_cons_succ]
           refine wpAnyH_take (i := 13) (oi := { dst := some 101, op := Op.fieldAddr 50 (Operand.tmp 100) 3, type := 0, pos := "frag.go:163", after := #[{ on := 12, ground := Ground.data }, { on := 0, ground := Ground.phase }, { on := 1, ground := Ground.phase }, { on := 2, ground := Ground.phase }, { on := 3, ground := Ground.phase }, { on := 4, ground := Ground.phase }, { on := 5, ground := Ground.phase }, { on := 6, ground := Ground.phase }, { on := 7, ground := Ground.phase }, { on := 8, ground := Ground.phase }, { on := 9, ground := Ground.phase }, { on := 10, ground := Ground.phase }, { on := 11, ground := Ground.phase }], guard := none }) (v := ?pgav13) rfl (by kernel_rfl) (by kernel_rfl) (by kernel_rfl) (fun _ _ _ h => h) (Or.inl ⟨by rfl, ?pgah13⟩) (by assumption) ?pgar13
           case pgah13 => ((intro w hSw; (try dsimp only at hSw); go_simp); try with_reducible rfl)
           try simp only [Act.put, List.setIfInBounds_toArray, List.set_cons_zero, List.set_cons_succ]
           refine wpAnyH_ready (rs := [14]) (by kernel_rfl) (by simp) ?_
           refine AllReadyH.cons (o := { dst := none, op := Op.store 48 (Operand.tmp 101) (Operand.tmp 99), type := 0, pos := "frag.go:163", after := #[{ on := 13, ground := Ground.data }, { on := 11, ground := Ground.data }, { on := 11, ground := Ground.chain }, { on := 0, ground := Ground.phase }, { on := 1, ground := Ground.phase }, { on := 2, ground := Ground.phase }, { on := 3, ground := Ground.phase }, { on := 4, ground := Ground.phase }, { on := 5, ground := Ground.phase }, { on := 6, ground := Ground.phase }, { on := 7, ground := Ground.phase }, { on := 8, ground := Ground.phase }, { on := 9, ground := Ground.phase }, { on := 10, ground := Ground.phase }, { on := 11, ground := Ground.phase }], guard := none }) rfl (fun K hK => ?_) AllReadyH.nil
           go_simp; refine hK.out _ _ (HSS.out _ _ _ hHeld) (fun hHeld => ?_)
           clear hK K
           try simp only [Act.put, List.setIfInBounds_toArray, List.set_cons_zero, List.set_cons_succ]
           refine wpAnyH_done (by kernel_rfl) ?_ _
           go_wp2_with fail
           obtain ⟨X5, h5⟩ := HF5.out
           exact ⟨⟨m + 1, by omega, by go_num, X5, h5⟩, by simp [intOf]; omega⟩
          refine AllReadyH.cons (o := { dst := some 98, op := Op.buildSlice 48 1 #[(0, Operand.tmp 97)], type := 48, pos := "frag.go:163", after := #[{ on := 9, ground := Ground.data }], guard := none }) rfl (fun K hK => ?_) AllReadyH.nil
          go_simp; refine hK.out _ _ (HSA.out _ _ hHeld) (fun hHeld => ?_)
          clear hK K
          try simp only [Act.put, List.setIfInBounds_toArray, List.set_cons_zero, List.set_cons_succ]
          refine wpAnyH_ready (rs := [8]) (by kernel_rfl) (by simp) ?_
          refine AllReadyH.cons (o := { dst := some 96, op := Op.load 48 (Operand.tmp 95), type := 48, pos := "frag.go:163", after := #[{ on := 7, ground := Ground.data }], guard := none }) rfl (fun K hK => ?_) AllReadyH.nil
          go_simp; refine hK.out _ _ hHeld (fun hHeld => ?_)
          clear hK K
          try simp only [Act.put, List.setIfInBounds_toArray, List.set_cons_zero, List.set_cons_succ]
          refine wpAnyH_ready (rs := [11]) (by kernel_rfl) (by simp) ?_
          refine AllReadyH.cons (o := { dst := some 99, op := Op.call { callee := Callee.builtin Builtin.append, args := #[Operand.tmp 96, Operand.tmp 98], argTypes := #[48, 48] }, type := 48, pos := "frag.go:163", after := #[{ on := 8, ground := Ground.data }, { on := 10, ground := Ground.data }], guard := none }) rfl (fun K hK => ?_) AllReadyH.nil
          (refine step_app EPiece rfl (.tmp 96) (.tmp 98) rfl W.heap.size (.slice zp4 zl4.length zc4) zl4.length (zl4.flatMap PcR.cells) rfl (HZO.out.alloc _) _ 1 1 x'.cells rfl rfl (row_newAt _ _ _ _ rfl) (pcr_ones _) (by unfold maxLen; omega) (by omega) (by simp; omega) ?_); intro v5 w5 ho5 hg5 hs5; obtain ⟨p5, c5, rfl, -⟩ := own_shape ho5; obtain ⟨t3, t4⟩ := HSC.out _ _ hg5; have HF5 := hid (HFIN.out _ _ _ _ ho5 hg5 hs5); have HG5 := hid hg5; clear ho5 hg5 hs5; refine hK.out _ _ (HSG.out _ _ hHeld HG5.out) (fun hHeld => ?_)
          clear hK K
          try simp only [Act.put, List.setIfInBounds_toArray, List.set_cons_zero, List.set_cons_succ]
          refine wpAnyH_take (i := 12) (oi := { dst := some 100, op := Op.indexAddr 28 (Operand.tmp 89) (Operand.tmp 90), type := 0, pos := "frag.go:163", after := #[{ on := 1, ground := Ground.data }, { on := 2, ground := Ground.data }, { on := 0, ground := Ground.phase }, { on := 1, ground := Ground.phase }, { on := 2, ground := Ground.phase }, { on := 3, ground := Ground.phase }, { on := 4, ground := Ground.phase }, { on := 5, ground := Ground.phase }, { on := 6, ground := Ground.phase }, { on := 7, ground := Ground.phase }, { on := 8, ground := Ground.phase }, { on := 9, ground := Ground.phase }, { on := 10, ground := Ground.phase }, { on := 11, ground := Ground.phase }], guard := none }) (v := ?pgbv12) rfl (by kernel_rfl) (by kernel_rfl) (by kernel_rfl) (fun _ _ _ h => h) (Or.inl ⟨by rfl, ?pgbh12⟩) (by assumption) ?pgbr12
          case pgbh12 => ((intro w hSw; (try dsimp only at hSw); go_simp); try with_reducible rfl)
          try simp only [Act.put, List.setIfInBounds_toArray, List.set_cons_zero, List.set_cons_succ]
          refine wpAnyH_take (i := 13) (oi := { dst := some 101, op := Op.fieldAddr 50 (Operand.tmp 100) 3, type := 0, pos := "frag.go:163", after := #[{ on := 12, ground := Ground.data }, { on := 0, ground := Ground.phase }, { on := 1, ground := Ground.phase }, { on := 2, ground := Ground.phase }, { on := 3, ground := Ground.phase }, { on := 4, ground := Ground.phase }, { on := 5, ground := Ground.phase }, { on := 6, ground := Ground.phase }, { on := 7, ground := Ground.phase }, { on := 8, ground := Ground.phase }, { on := 9, ground := Ground.phase }, { on := 10, ground := Ground.phase }, { on := 11, ground := Ground.phase }], guard := none }) (v := ?pgbv13) rfl (by kernel_rfl) (by kernel_rfl) (by kernel_rfl) (fun _ _ _ h => h) (Or.inl ⟨by rfl, ?pgbh13⟩) (by assumption) ?pgbr13
          case pgbh13 => ((intro w hSw; (try dsimp only at hSw); go_simp); try with_reducible rfl)
          try simp only [Act.put, List.setIfInBounds_toArray, List.set_cons_zero, List.set_cons_succ]
          refine wpAnyH_ready (rs := [14]) (by kernel_rfl) (by simp) ?_
          refine AllReadyH.cons (o := { dst := none, op := Op.store 48 (Operand.tmp 101) (Operand.tmp 99), type := 0, pos := "frag.go:163", after := #[{ on := 13, ground := Ground.data }, { on := 11, ground := Ground.data }, { on := 11, ground := Ground.chain }, { on := 0, ground := Ground.phase }, { on := 1, ground := Ground.phase }, { on := 2, ground := Ground.phase }, { on := 3, ground := Ground.phase }, { on := 4, ground := Ground.phase }, { on := 5, ground := Ground.phase }, { on := 6, ground := Ground.phase }, { on := 7, ground := Ground.phase }, { on := 8, ground := Ground.phase }, { on := 9, ground := Ground.phase }, { on := 10, ground := Ground.phase }, { on := 11, ground := Ground.phase }], guard := none }) rfl (fun K hK => ?_) AllReadyH.nil
          go_simp; refine hK.out _ _ (HSS.out _ _ _ hHeld) (fun hHeld => ?_)
          clear hK K
          try simp only [Act.put, List.setIfInBounds_toArray, List.set_cons_zero, List.set_cons_succ]
          refine wpAnyH_done (by kernel_rfl) ?_ _
          go_wp2_with fail
          obtain ⟨X5, h5⟩ := HF5.out
          exact ⟨⟨m + 1, by omega, by go_num, X5, h5⟩, by simp [intOf]; omega⟩
          --A>
        ·have hme : m = NQ := by omega
         subst hme
         have hpcs : pcsAt X2.pl i = zl.length := by
          unfold pcsAt FV.pl
          dsimp only
          rw [List.getElem?_map, HZ.out]
          show (z.pieces.l.map PcR.pl).length = _
          rw [List.length_map, ← HZS.out]
         have hX4 : X4.pl = X2.pl.putAll i y.pl.pieces := by
          unfold FP.putAll FV.pl
          dsimp only
          rw [h4.ps, h4.ms, h4.gs, h4.ji.jb.fs, HJ2.out.jb.fs]
          rw [List.take_of_length_le (by rw [HNQ.out]; exact Nat.le_refl _)]
          rfl
         have HFJ : Hid (PJI W X.pl (unCost (l.take k)) ub u (j + 1) u7 u8 X4 (PL ++ [i]) (FL ++ [zl.length]) wq) := by
          refine ⟨h4.ji, ?_, ?_, HAX8.out.tr h4.tr.j0, h4.tr.box (by have := HUB.out; have := HUBE.out; omega) HBX8.out rfl⟩
          ·rw [HSJ.out, ← H1.out.pl]
           unfold jpStep FP.joinPart
           dsimp only
           rw [show X1.pl.part y.pl.file y.pl.line y.pl.name = (X2.pl, i) from HP2.out.plain]
           dsimp only
           rw [hX4, hpcs]
          ·have q := h4.sm
           rw [HNN.out] at q
           refine q.mono2 ?_
           rw [HPC.out, ← HNQ.out]; omega
         clear h4 hpcs hX4
         go_wp2_with fail
         exact ⟨⟨j + 1, by omega, by go_num, X4, _, _, HFJ.out⟩, by simp [intOf]; omega⟩
    ·have hje : j = NP := by omega
     subst hje
     have v1 := cell_of_row _ _ 1 _ _ _ h1.box
     simp only [UnR.cells, Sl.val, List.getElem?_toArray, List.getElem?_cons_zero, List.getElem?_cons_succ] at v1
     obtain ⟨NMK, hNMK⟩ : ∃ NMK, NMK = u.marks.l.length := ⟨_, rfl⟩
     have HNMK := hid hNMK
     rw [← hNMK] at v1
     have hfull : u.parts.l.take j = u.parts.l := List.take_of_length_le (by rw [HNP.out]; exact Nat.le_refl _)
     obtain ⟨n2, hn2⟩ : ∃ n2, n2 = unCost (l.take k) + ptCost u.parts.l := ⟨_, rfl⟩
     have HN2 := hid hn2
     have hn2b : n2 + NMK ≤ 2000000 := by
      have h1 := HCU.out
      have h4 : u.cost = ptCost u.parts.l + u.marks.l.length + u.globals.l.length := rfl
      omega
     have HMJ0 : Hid (MJI W X1 PL FL u.marks.l n2 ub u 0 u7 u8 X1 wy) := ⟨h1.ji, rfl, by rw [List.take_zero]; simp, rfl, by have := h1.sm; rw [hfull] at this; rw [hn2]; exact this, h1.ax, h1.box⟩
     have HPLL : Hid (PL.length = j ∧ FL.length = j) := by
      have h2 := congrArg (fun q => q.2.1.length) h1.pl
      have h3 := congrArg (fun q => q.2.2.length) h1.pl
      dsimp only at h2 h3
      rw [(joinParts_ms _ _).2.2.2.1, hfull] at h2
      rw [(joinParts_ms _ _).2.2.2.2, hfull] at h3
      simp at h2 h3
      have h4 := HNP.out
      exact ⟨by omega, by omega⟩
     have HUB2 : Hid (ub ≠ W.heap.size + 1) := by have := HUB.out; have := HUBE.out; unfold Hid; omega
     have HF1 : Hid ((X1.pl, PL, FL) = joinParts (X.pl, [], []) (u.parts.l.map PtR.pl)) := by have := h1.pl; rw [hfull] at this; exact this
     clear hNMK h1 hfull hn2
     go_wp2_with fail
     go_loopw [107] (fun iv wm => ∃ (m : Nat), m ≤ NMK ∧ iv = .int .i64 m ∧ ∃ X6, MJI W X1 PL FL u.marks.l n2 ub u m u7 u8 X6 wm) (fun iv _ => NMK - (intOf iv).toNat)
     case atStart => exact ⟨0, Nat.zero_le _, rfl, X1, HMJ0.out⟩
     case round =>
      rename World => wm
      obtain ⟨m, hm, rfl, X6, h6⟩ := hrel
      have H6 := hid h6
      clear HMJ0
      by_cases hml : m < NMK
      ·have hmI : (m : Int) < NMK := by omega
       have hml2 : m < u.marks.l.length := by rw [← HNMK.out]; exact hml
       have hmr := HUI.out.mr.below h6.ji.b
       obtain ⟨kb, ko, hke, -, -⟩ := hmr.at (by rw [flat_len Mk.cells 9 (fun _ => rfl)]; omega)
       rw [hke] at hmr
       obtain ⟨x0, x1, x2, x3, x4, x5, x6, x7, x8⟩ := mk_cells hmr m hml2
       rw [hke]
       have HTM : Hid (u.marks.l.take (m + 1) = u.marks.l.take m ++ [u.marks.l[m]]) := by unfold Hid; rw [List.take_add_one, List.getElem?_eq_getElem hml2]; rfl
       generalize u.marks.l[m] = x at *
       obtain ⟨W9, hW9⟩ : ∃ W9, W9 = wm.alloc (.cells #[.string x.name, .int .i64 x.file, .int .i64 x.line, .int .i64 x.part, .int .i64 x.piece, .bool x.equ, .int .i64 x.v.add, .string x.v.plus, .string x.v.minus] 81) := ⟨_, rfl⟩
       have HW9 := hid hW9
       have hb9 : Below wm.heap.size wm W9 := by rw [hW9]; exact alloc_below _ _
       have HX9 : Hid (BxM wm.heap.size x W9) := by unfold Hid BxM; rw [hW9]; exact heap_alloc_new _ _
       have HB9 := hid hb9
       obtain ⟨pp, pc9, hpvE, -⟩ := own_shape h6.ax.p
       obtain ⟨fp, fc9, hfvE, -⟩ := own_shape h6.ax.f
       subst hpvE
       subst hfvE
       have hplI := HPLL.out.1
       have hflI := HPLL.out.2
       obtain ⟨y0, y1, y2, y3, y4, y5, y6, y7, y8⟩ := boxm_cells HX9.out
       obtain ⟨B, hB⟩ : ∃ B, B = (decide (0 ≤ x.part) && decide (x.part < (PL.length : Nat))) := ⟨_, rfl⟩
       have HBB := hid hB
       clear h6 hmr hke hb9 hW9 hplI hflI hB
       go_upto_region 26 with (fail)
       rw [← HW9.out]
       clear x0 x1 x2 x3 x4 x5 x6 x7 x8
       go_cut [120] from 111 to 119 (fun v wx => v = .bool B ∧ wx = W9)
       case first =>
        by_cases h0 : 0 ≤ x.part
        ·by_cases h1 : x.part < (PL.length : Nat)
         ·have d0 : decide (0 ≤ x.part) = true := by simpa using h0
          have d1 : decide (x.part < (PL.length : Nat)) = true := by simpa using h1
          go_wp2_with fail
          go_meet
          exact ⟨by rw [HBB.out, d0, d1]; rfl, rfl⟩
         ·have d0 : decide (0 ≤ x.part) = true := by simpa using h0
          have d1 : decide (x.part < (PL.length : Nat)) = false := by simpa using h1
          go_wp2_with fail
          go_meet
          exact ⟨by rw [HBB.out, d0, d1]; rfl, rfl⟩
        ·have d0 : decide (0 ≤ x.part) = false := by simpa using h0
         go_wp2_with fail
         go_meet
         exact ⟨by rw [HBB.out, d0]; rfl, rfl⟩
       case rest =>
        obtain ⟨rfl, hwc⟩ := hcut
        rw [hwc]
        clear hwc
        go_upto_if 120 with (fail)
        go_cut [] from 121 to 137 (fun wx => BxM wm.heap.size (moveM PL FL x) wx ∧ Below wm.heap.size wm wx)
        case first =>
         cases B with
         | false =>
          have hmv : moveM PL FL x = { x with part := -1, piece := 0 } := by
           unfold moveM
           rw [if_neg]
           intro hh
           have := HBB.out
           simp [hh.1, hh.2] at this
          have hx9 := HX9.out
          have z3 := frozen_of_row _ _ 3 _ _ hx9
          have z4 := frozen_of_row _ _ 4 _ _ hx9
          go_wp2_with fail
          go_meet
          rw [hmv]
          exact ⟨mbx_set HX9.out _ _, Below.setCell (p := ⟨wm.heap.size, 4, none⟩) (Below.setCell (p := ⟨wm.heap.size, 3, none⟩) HB9.out (Nat.le_refl _) _) (Nat.le_refl _) _⟩
         | true =>
          --<A
          have h01 : 0 ≤ x.part ∧ x.part < (PL.length : Nat) := by have := HBB.out; simpa using this.symm
          obtain ⟨q, hq⟩ : ∃ q : Nat, x.part = q := ⟨x.part.toNat, by omega⟩
          have hqP : q < PL.length := by omega
          have hqF : q < FL.length := by have := HPLL.out; omega
          have hmv : moveM PL FL x = { x with part := (PL[q] : Nat), piece := IntKind.i64.wrap (x.piece + (FL[q] : Nat)) } := by
           unfold moveM
           rw [if_pos h01]
           simp [natAt, hq, hqP, hqF]
          have HMV := hid hmv
          obtain ⟨wd, hwd⟩ : ∃ wd, wd = W9.drew := ⟨_, rfl⟩
          have hbd : Below wm.heap.size wm wd := by rw [hwd]; exact HB9.out.drew
          have hxd : BxM wm.heap.size x wd := by rw [hwd]; exact HX9.out
          have hpo := own_below H6.out.ax.p hbd
          have hfo := own_below H6.out.ax.f hbd
          obtain ⟨pp', pc', ep, hpr⟩ := own_shape hpo
          cases ep
          obtain ⟨fp', fc', ef, hfr⟩ := own_shape hfo
          cases ef
          obtain ⟨b1, o1, hpe, hb1, -⟩ := hpr.at (by simp; omega)
          obtain ⟨b2, o2, hfe, hb2, -⟩ := hfr.at (by simp; omega)
          subst hpe
          subst hfe
          have hc1 := hpr.cell q (by simpa using hqP)
          have hc2 := hfr.cell q (by simpa using hqF)
          simp only [List.getElem_map, natV] at hc1 hc2
          generalize PL[q] = pq at *
          generalize FL[q] = fq at *
          have hn1 : b1 ≠ wm.heap.size := tag_ne (own_tag hpo rfl) (tag_row hxd) (by decide)
          have hn2 : b2 ≠ wm.heap.size := tag_ne (own_tag hfo rfl) (tag_row hxd) (by decide)
          have HSS : Hid (∀ (w : World) (k : Nat) (v : Value), SameAt b1 b2 wd w → SameAt b1 b2 wd (w.setCell ⟨wm.heap.size, k, none⟩ v)) := fun w k v h => ⟨by have := h.sz; simp; exact this, (heap_setCell_other _ _ _ _ hn1).trans h.a, (heap_setCell_other _ _ _ _ hn2).trans h.b⟩
          have r1 : ∀ w : World, SameAt b1 b2 wd w → w.cell? ⟨b1, o1 + q, none⟩ = some (.int .i64 (pq : Nat)) := fun w h => (World.cell?_of_block (a := ⟨b1, o1 + q, none⟩) h.a).trans hc1
          have r2 : ∀ w : World, SameAt b1 b2 wd w → w.cell? ⟨b2, o2 + q, none⟩ = some (.int .i64 (fq : Nat)) := fun w h => (World.cell?_of_block (a := ⟨b2, o2 + q, none⟩) h.b).trans hc2
          obtain ⟨-, -, -, t3, t4, -, -, -, -⟩ := boxm_cells hxd
          have s3 := frozen_of_row _ _ 3 _ _ hxd
          have s4 := frozen_of_row _ _ 4 _ _ hxd
          rw [hq] at t3
          have HXD := hid hxd
          have HBD := hid hbd
          have HH0 : Hid (SameAt b1 b2 wd wd) := ⟨Nat.le_refl _, rfl, rfl⟩
          have hqPI : (q : Int) < PL.length := by omega
          have hqFI : (q : Int) < FL.length := by omega
          clear hmv hpo hfo hpr hfr hc1 hc2 hn1 hn2 hxd hbd h01 hq y0 y1 y2 y3 y4 y5 y6 y7 y8
          go_upto_region 27 with (fail)
          refine wp_region_held_drew (S := SameAt b1 b2 wd) (by kernel_rfl) (by rw [← hwd]; exact HH0.out) (fun hHeld => ?_)
          rw [← hwd] at *
          refine wpAnyH_take (i := 0) (oi := { dst := some 121, op := Op.move (Operand.tmp 7), type := 91, pos := "frag.go:168", after := #[], guard := none }) (v := ?pmv0) rfl (by kernel_rfl) (by kernel_rfl) (by kernel_rfl) (fun _ _ _ h => h) (Or.inl ⟨by rfl, ?pmh0⟩) (by assumption) ?pmr0
          case pmh0 => ((intro w hSw; (try dsimp only at hSw); go_simp); try with_reducible rfl)
          try simp only [Act.put, List.setIfInBounds_toArray, List.set_cons_zero, List.set_cons_succ]
          refine wpAnyH_take (i := 1) (oi := { dst := some 122, op := Op.fieldAddr 81 (Operand.tmp 16) 3, type := 0, pos := "frag.go:168", after := #[], guard := none }) (v := ?pmv1) rfl (by kernel_rfl) (by kernel_rfl) (by kernel_rfl) (fun _ _ _ h => h) (Or.inl ⟨by rfl, ?pmh1⟩) (by assumption) ?pmr1
          case pmh1 => ((intro w hSw; (try dsimp only at hSw); go_simp); try with_reducible rfl)
          try simp only [Act.put, List.setIfInBounds_toArray, List.set_cons_zero, List.set_cons_succ]
          refine wpAnyH_take (i := 5) (oi := { dst := some 126, op := Op.fieldAddr 81 (Operand.tmp 16) 4, type := 0, pos := "frag.go:168", after := #[], guard := none }) (v := ?pmv5) rfl (by kernel_rfl) (by kernel_rfl) (by kernel_rfl) (fun _ _ _ h => h) (Or.inl ⟨by rfl, ?pmh5⟩) (by assumption) ?pmr5
          case pmh5 => ((intro w hSw; (try dsimp only at hSw); go_simp); try with_reducible rfl)
          try simp only [Act.put, List.setIfInBounds_toArray, List.set_cons_zero, List.set_cons_succ]
          refine wpAnyH_take (i := 7) (oi := { dst := some 128, op := Op.move (Operand.tmp 8), type := 91, pos := "frag.go:168", after := #[], guard := none }) (v := ?pmv7) rfl (by kernel_rfl) (by kernel_rfl) (by kernel_rfl) (fun _ _ _ h => h) (Or.inl ⟨by rfl, ?pmh7⟩) (by assumption) ?pmr7
          case pmh7 => ((intro w hSw; (try dsimp only at hSw); go_simp); try with_reducible rfl)
          try simp only [Act.put, List.setIfInBounds_toArray, List.set_cons_zero, List.set_cons_succ]
          refine wpAnyH_take (i := 8) (oi := { dst := some 129, op := Op.fieldAddr 81 (Operand.tmp 16) 3, type := 0, pos := "frag.go:168", after := #[], guard := none }) (v := ?pmv8) rfl (by kernel_rfl) (by kernel_rfl) (by kernel_rfl) (fun _ _ _ h => h) (Or.inl ⟨by rfl, ?pmh8⟩) (by assumption) ?pmr8
          case pmh8 => ((intro w hSw; (try dsimp only at hSw); go_simp); try with_reducible rfl)
          try simp only [Act.put, List.setIfInBounds_toArray, List.set_cons_zero, List.set_cons_succ]
          refine wpAnyH_ready (rs := [2, 6, 9]) (by kernel_rfl) (by simp) ?_
          refine AllReadyH.cons (o := { dst := some 123, op := Op.load 3 (Operand.tmp 122), type := 3, pos := "frag.go:168", after := #[{ on := 1, ground := Ground.data }], guard := none }) rfl (fun K hK => ?_) ?_
          ·go_simp; refine hK.out _ _ hHeld (fun hHeld => ?_)
           clear hK K
           try simp only [Act.put, List.setIfInBounds_toArray, List.set_cons_zero, List.set_cons_succ]
           refine wpAnyH_take (i := 3) (oi := { dst := some 124, op := Op.indexAddr 91 (Operand.tmp 121) (Operand.tmp 123), type := 0, pos := "frag.go:168", after := #[{ on := 0, ground := Ground.data }, { on := 2, ground := Ground.data }], guard := none }) (v := ?pmav3) rfl (by kernel_rfl) (by kernel_rfl) (by kernel_rfl) (fun _ _ _ h => h) (Or.inl ⟨by rfl, ?pmah3⟩) (by assumption) ?pmar3
           case pmah3 => ((intro w hSw; (try dsimp only at hSw); go_simp); try with_reducible rfl)
           try simp only [Act.put, List.setIfInBounds_toArray, List.set_cons_zero, List.set_cons_succ]
           refine wpAnyH_take (i := 4) (oi := { dst := some 125, op := Op.load 3 (Operand.tmp 124), type := 3, pos := "frag.go:168", after := #[{ on := 3, ground := Ground.data }], guard := none }) (v := ?pmav4) rfl (by kernel_rfl) (by kernel_rfl) (by kernel_rfl) (fun _ _ _ h => h) (Or.inl ⟨by rfl, ?pmah4⟩) (by assumption) ?pmar4
           case pmah4 => ((intro w hSw; (try dsimp only at hSw); go_simp); try with_reducible rfl)
           try simp only [Act.put, List.setIfInBounds_toArray, List.set_cons_zero, List.set_cons_succ]
           refine wpAnyH_ready (rs := [6, 9]) (by kernel_rfl) (by simp) ?_
           refine AllReadyH.cons (o := { dst := some 127, op := Op.load 3 (Operand.tmp 126), type := 3, pos := "frag.go:168", after := #[{ on := 5, ground := Ground.data }], guard := none }) rfl (fun K hK => ?_) ?_
           ·go_simp; refine hK.out _ _ hHeld (fun hHeld => ?_)
            clear hK K
            try simp only [Act.put, List.setIfInBounds_toArray, List.set_cons_zero, List.set_cons_succ]
            refine wpAnyH_ready (rs := [9]) (by kernel_rfl) (by simp) ?_
            refine AllReadyH.cons (o := { dst := some 130, op := Op.load 3 (Operand.tmp 129), type := 3, pos := "frag.go:168", after := #[{ on := 8, ground := Ground.data }], guard := none }) rfl (fun K hK => ?_) AllReadyH.nil
            go_simp; refine hK.out _ _ hHeld (fun hHeld => ?_)
            clear hK K
            try simp only [Act.put, List.setIfInBounds_toArray, List.set_cons_zero, List.set_cons_succ]
            refine wpAnyH_take (i := 10) (oi := { dst := some 131, op := Op.indexAddr 91 (Operand.tmp 128) (Operand.tmp 130), type := 0, pos := "frag.go:168", after := #[{ on := 7, ground := Ground.data }, { on := 9, ground := Ground.data }], guard := none }) (v := ?pmaav10) rfl (by kernel_rfl) (by kernel_rfl) (by kernel_rfl) (fun _ _ _ h => h) (Or.inl ⟨by rfl, ?pmaah10⟩) (by assumption) ?pmaar10
            case pmaah10 => ((intro w hSw; (try dsimp only at hSw); go_simp); try with_reducible rfl)
            try simp only [Act.put, List.setIfInBounds_toArray, List.set_cons_zero, List.set_cons_succ]
            refine wpAnyH_take (i := 11) (oi := { dst := some 132, op := Op.load 3 (Operand.tmp 131), type := 3, pos := "frag.go:168", after := #[{ on := 10, ground := Ground.data }], guard := none }) (v := ?pmaav11) rfl (by kernel_rfl) (by kernel_rfl) (by kernel_rfl) (fun _ _ _ h => h) (Or.inl ⟨by rfl, ?pmaah11⟩) (by assumption) ?pmaar11
            case pmaah11 => ((intro w hSw; (try dsimp only at hSw); go_simp); try with_reducible rfl)
            try simp only [Act.put, List.setIfInBounds_toArray, List.set_cons_zero, List.set_cons_succ]
            refine wpAnyH_take (i := 12) (oi := { dst := some 133, op := Op.binOp BinOp.add 3 (Operand.tmp 127) (Operand.tmp 132) 3, type := 3, pos := "frag.go:168", after := #[{ on := 6, ground := Ground.data }, { on := 11, ground := Ground.data }], guard := none }) (v := ?pmaav12) rfl (by kernel_rfl) (by kernel_rfl) (by kernel_rfl) (fun _ _ _ h => h) (Or.inl ⟨by rfl, ?pmaah12⟩) (by assumption) ?pmaar12
            case pmaah12 => ((intro w hSw; (try dsimp only at hSw); go_simp); try with_reducible rfl)
            try simp only [Act.put, List.setIfInBounds_toArray, List.set_cons_zero, List.set_cons_succ]
            refine wpAnyH_take (i := 13) (oi := { dst := some 134, op := Op.fieldAddr 81 (Operand.tmp 16) 3, type := 0, pos := "frag.go:168", after := #[{ on := 0, ground := Ground.phase }, { on := 1, ground := Ground.phase }, { on := 2, ground := Ground.phase }, { on := 3, ground := Ground.phase }, { on := 4, ground := Ground.phase }, { on := 5, ground := Ground.phase }, { on := 6, ground := Ground.phase }, { on := 7, ground := Ground.textOnly Departure.lateStores }, { on := 8, ground := Ground.phase }, { on := 9, ground := Ground.phase }, { on := 10, ground := Ground.textOnly Departure.lateStoresUnsure }, { on := 11, ground := Ground.textOnly Departure.lateStoresUnsure }, { on := 12, ground := Ground.textOnly Departure.lateStoresUnsure }], guard := none }) (v := ?pmaav13) rfl (by kernel_rfl) (by kernel_rfl) (by kernel_rfl) (fun _ _ _ h => h) (Or.inl ⟨by rfl, ?pmaah13⟩) (by assumption) ?pmaar13
            case pmaah13 => ((intro w hSw; (try dsimp only at hSw); go_simp); try with_reducible rfl)
            try simp only [Act.put, List.setIfInBounds_toArray, List.set_cons_zero, List.set_cons_succ]
            refine wpAnyH_ready (rs := [14]) (by kernel_rfl) (by simp) ?_
            refine AllReadyH.cons (o := { dst := none, op := Op.store 3 (Operand.tmp 134) (Operand.tmp 125), type := 0, pos := "frag.go:168", after := #[{ on := 13, ground := Ground.data }, { on := 4, ground := Ground.data }, { on := 0, ground := Ground.phase }, { on := 1, ground := Ground.phase }, { on := 2, ground := Ground.phase }, { on := 3, ground := Ground.phase }, { on := 4, ground := Ground.phase }, { on := 5, ground := Ground.phase }, { on := 6, ground := Ground.phase }, { on := 7, ground := Ground.textOnly Departure.lateStores }, { on := 8, ground := Ground.phase }, { on := 9, ground := Ground.phase }, { on := 10, ground := Ground.textOnly Departure.lateStoresUnsure }, { on := 11, ground := Ground.textOnly Departure.lateStoresUnsure }, { on := 12, ground := Ground.textOnly Departure.lateStoresUnsure }], guard := none }) rfl (fun K hK => ?_) AllReadyH.nil
            go_simp; refine hK.out _ _ (HSS.out _ _ _ hHeld) (fun hHeld => ?_)
            clear hK K
            try simp only [Act.put, List.setIfInBounds_toArray, List.set_cons_zero, List.set_cons_succ]
            refine wpAnyH_take (i := 15) (oi := { dst := some 135, op := Op.fieldAddr 81 (Operand.tmp 16) 4, type := 0, pos := "frag.go:168", after := #[{ on := 0, ground := Ground.phase }, { on := 1, ground := Ground.phase }, { on := 2, ground := Ground.phase }, { on := 3, ground := Ground.phase }, { on := 4, ground := Ground.phase }, { on := 5, ground := Ground.phase }, { on := 6, ground := Ground.phase }, { on := 7, ground := Ground.phase }, { on := 8, ground := Ground.phase }, { on := 9, ground := Ground.phase }, { on := 10, ground := Ground.phase }, { on := 11, ground := Ground.phase }, { on := 12, ground := Ground.phase }, { on := 13, ground := Ground.phase }, { on := 14, ground := Ground.phase }], guard := none }) (v := ?pmaav15) rfl (by kernel_rfl) (by kernel_rfl) (by kernel_rfl) (fun _ _ _ h => h) (Or.inl ⟨by rfl, ?pmaah15⟩) (by assumption) ?pmaar15
            case pmaah15 => ((intro w hSw; (try dsimp only at hSw); go_simp); try with_reducible rfl)
            try simp only [Act.put, List.setIfInBounds_toArray, List.set_cons_zero, List.set_cons_succ]
            refine wpAnyH_ready (rs := [16]) (by kernel_rfl) (by simp) ?_
            refine AllReadyH.cons (o := { dst := none, op := Op.store 3 (Operand.tmp 135) (Operand.tmp 133), type := 0, pos := "frag.go:168", after := #[{ on := 15, ground := Ground.data }, { on := 12, ground := Ground.data }, { on := 14, ground := Ground.chain }, { on := 0, ground := Ground.phase }, { on := 1, ground := Ground.phase }, { on := 2, ground := Ground.phase }, { on := 3, ground := Ground.phase }, { on := 4, ground := Ground.phase }, { on := 5, ground := Ground.phase }, { on := 6, ground := Ground.phase }, { on := 7, ground := Ground.phase }, { on := 8, ground := Ground.phase }, { on := 9, ground := Ground.phase }, { on := 10, ground := Ground.phase }, { on := 11, ground := Ground.phase }, { on := 12, ground := Ground.phase }, { on := 13, ground := Ground.phase }, { on := 14, ground := Ground.phase }], guard := none }) rfl (fun K hK => ?_) AllReadyH.nil
            go_simp; refine hK.out _ _ (HSS.out _ _ _ hHeld) (fun hHeld => ?_)
            clear hK K
            try simp only [Act.put, List.setIfInBounds_toArray, List.set_cons_zero, List.set_cons_succ]
            refine wpAnyH_done (by kernel_rfl) ?_ _
            go_wp2_with fail
            go_meet
            rw [HMV.out]
            exact ⟨mbx_set HXD.out _ _, Below.setCell (p := ⟨wm.heap.size, 4, none⟩) (Below.setCell (p := ⟨wm.heap.size, 3, none⟩) HBD.out (Nat.le_refl _) _) (Nat.le_refl _) _⟩
           refine AllReadyH.cons (o := { dst := some 130, op := Op.load 3 (Operand.tmp 129), type := 3, pos := "frag.go:168", after := #[{ on := 8, ground := Ground.data }], guard := none }) rfl (fun K hK => ?_) AllReadyH.nil
           go_simp; refine hK.out _ _ hHeld (fun hHeld => ?_)
           clear hK K
           try simp only [Act.put, List.setIfInBounds_toArray, List.set_cons_zero, List.set_cons_succ]
           refine wpAnyH_take (i := 10) (oi := { dst := some 131, op := Op.indexAddr 91 (Operand.tmp 128) (Operand.tmp 130), type := 0, pos := "frag.go:168", after := #[{ on := 7, ground := Ground.data }, { on := 9, ground := Ground.data }], guard := none }) (v := ?pmabv10) rfl (by kernel_rfl) (by kernel_rfl) (by kernel_rfl) (fun _ _ _ h => h) (Or.inl ⟨by rfl, ?pmabh10⟩) (by assumption) ?pmabr10
           case pmabh10 => ((intro w hSw; (try dsimp only at hSw); go_simp); try with_reducible rfl)
           try simp only [Act.put, List.setIfInBounds_toArray, List.set_cons_zero, List.set_cons_succ]
           refine wpAnyH_take (i := 11) (oi := { dst := some 132, op := Op.load 3 (Operand.tmp 131), type := 3, pos := "frag.go:168", after := #[{ on := 10, ground := Ground.data }], guard := none }) (v := ?pmabv11) rfl (by kernel_rfl) (by kernel_rfl) (by kernel_rfl) (fun _ _ _ h => h) (Or.inl ⟨by rfl, ?pmabh11⟩) (by assumption) ?pmabr11
           case pmabh11 => ((intro w hSw; (try dsimp only at hSw); go_simp); try with_reducible rfl)
           try simp only [Act.put, List.setIfInBounds_toArray, List.set_cons_zero, List.set_cons_succ]
           refine wpAnyH_ready (rs := [6]) (by kernel_rfl) (by simp) ?_
           refine AllReadyH.cons (o := { dst := some 127, op := Op.load 3 (Operand.tmp 126), type := 3, pos := "frag.go:168", after := #[{ on := 5, ground := Ground.data }], guard := none }) rfl (fun K hK => ?_) AllReadyH.nil
           go_simp; refine hK.out _ _ hHeld (fun hHeld => ?_)
           clear hK K
           try simp only [Act.put, List.setIfInBounds_toArray, List.set_cons_zero, List.set_cons_succ]
           refine wpAnyH_take (i := 12) (oi := { dst := some 133, op := Op.binOp BinOp.add 3 (Operand.tmp 127) (Operand.tmp 132) 3, type := 3, pos := "frag.go:168", after := #[{ on := 6, ground := Ground.data }, { on := 11, ground := Ground.data }], guard := none }) (v := ?pmabv12) rfl (by kernel_rfl) (by kernel_rfl) (by kernel_rfl) (fun _ _ _ h => h) (Or.inl ⟨by rfl, ?pmabh12⟩) (by assumption) ?pmabr12
           case pmabh12 => ((intro w hSw; (try dsimp only at hSw); go_simp); try with_reducible rfl)
           try simp only [Act.put, List.setIfInBounds_toArray, List.set_cons_zero, List.set_cons_succ]
           refine wpAnyH_take (i := 13) (oi := { dst := some 134, op := Op.fieldAddr 81 (Operand.tmp 16) 3, type := 0, pos := "frag.go:168", after := #[{ on := 0, ground := Ground.phase }, { on := 1, ground := Ground.phase }, { on := 2, ground := Ground.phase }, { on := 3, ground := Ground.phase }, { on := 4, ground := Ground.phase }, { on := 5, ground := Ground.phase }, { on := 6, ground := Ground.phase }, { on := 7, ground := Ground.textOnly Departure.lateStores }, { on := 8, ground := Ground.phase }, { on := 9, ground := Ground.phase }, { on := 10, ground := Ground.textOnly Departure.lateStoresUnsure }, { on := 11, ground := Ground.textOnly Departure.lateStoresUnsure }, { on := 12, ground := Ground.textOnly Departure.lateStoresUnsure }], guard := none }) (v := ?pmabv13) rfl (by kernel_rfl) (by kernel_rfl) (by kernel_rfl) (fun _ _ _ h => h) (Or.inl ⟨by rfl, ?pmabh13⟩) (by assumption) ?pmabr13
           case pmabh13 => ((intro w hSw; (try dsimp only at hSw); go_simp); try with_reducible rfl)
           try simp only [Act.put, List.setIfInBounds_toArray, List.set_cons_zero, List.set_cons_succ]
           refine wpAnyH_ready (rs := [14]) (by kernel_rfl) (by simp) ?_
           refine AllReadyH.cons (o := { dst := none, op := Op.store 3 (Operand.tmp 134) (Operand.tmp 125), type := 0, pos := "frag.go:168", after := #[{ on := 13, ground := Ground.data }, { on := 4, ground := Ground.data }, { on := 0, ground := Ground.phase }, { on := 1, ground := Ground.phase }, { on := 2, ground := Ground.phase }, { on := 3, ground := Ground.phase }, { on := 4, ground := Ground.phase }, { on := 5, ground := Ground.phase }, { on := 6, ground := Ground.phase }, { on := 7, ground := Ground.textOnly Departure.lateStores }, { on := 8, ground := Ground.phase }, { on := 9, ground := Ground.phase }, { on := 10, ground := Ground.textOnly Departure.lateStoresUnsure }, { on := 11, ground := Ground.textOnly Departure.lateStoresUnsure }, { on := 12, ground := Ground.textOnly Departure.lateStoresUnsure }], guard := none }) rfl (fun K hK => ?_) AllReadyH.nil
           go_simp; refine hK.out _ _ (HSS.out _ _ _ hHeld) (fun hHeld => ?_)
           clear hK K
           try simp only [Act.put, List.setIfInBounds_toArray, List.set_cons_zero, List.set_cons_succ]
           refine wpAnyH_take (i := 15) (oi := { dst := some 135, op := Op.fieldAddr 81 (Operand.tmp 16) 4, type := 0, pos := "frag.go:168", after := #[{ on := 0, ground := Ground.phase }, { on := 1, ground := Ground.phase }, { on := 2, ground := Ground.phase }, { on := 3, ground := Ground.phase }, { on := 4, ground := Ground.phase }, { on := 5, ground := Ground.phase }, { on := 6, ground := Ground.phase }, { on := 7, ground := Ground.phase }, { on := 8, ground := Ground.phase }, { on := 9, ground := Ground.phase }, { on := 10, ground := Ground.phase }, { on := 11, ground := Ground.phase }, { on := 12, ground := Ground.phase }, { on := 13, ground := Ground.phase }, { on := 14, ground := Ground.phase }], guard := none }) (v := ?pmabv15) rfl (by kernel_rfl) (by kernel_rfl) (by kernel_rfl) (fun _ _ _ h => h) (Or.inl ⟨by rfl, ?pmabh15⟩) (by assumption) ?pmabr15
           case pmabh15 => ((intro w hSw; (try dsimp only at hSw); go_simp); try with_reducible rfl)
           try simp only [Act.put, List.setIfInBounds_toArray, List.set_cons_zero, List.set_cons_succ]
           refine wpAnyH_ready (rs := [16]) (by kernel_rfl) (by simp) ?_
           refine AllReadyH.cons (o := { dst := none, op := Op.store 3 (Operand.tmp 135) (Operand.tmp 133), type := 0, pos := "frag.go:168", after := #[{ on := 15, ground := Ground.data }, { on := 12, ground := Ground.data }, { on := 14, ground := Ground.chain }, { on := 0, ground := Ground.phase }, { on := 1, ground := Ground.phase }, { on := 2, ground := Ground.phase }, { on := 3, ground := Ground.phase }, { on := 4, ground := Ground.phase }, { on := 5, ground := Ground.phase }, { on := 6, ground := Ground.phase }, { on := 7, ground := Ground.phase }, { on := 8, ground := Ground.phase }, { on := 9, ground := Ground.phase }, { on := 10, ground := Ground.phase }, { on := 11, ground := Ground.phase }, { on := 12, ground := Ground.phase }, { on := 13, ground := Ground.phase }, { on := 14, ground := Ground.phase }], guard := none }) rfl (fun K hK => ?_) AllReadyH.nil
           go_simp; refine hK.out _ _ (HSS.out _ _ _ hHeld) (fun hHeld => ?_)
           clear hK K
           try simp only [Act.put, List.setIfInBounds_toArray, List.set_cons_zero, List.set_cons_succ]
           refine wpAnyH_done (by kernel_rfl) ?_ _
           go_wp2_with fail
           go_meet
           rw [HMV.out]
           exact ⟨mbx_set HXD.out _ _, Below.setCell (p := ⟨wm.heap.size, 4, none⟩) (Below.setCell (p := ⟨wm.heap.size, 3, none⟩) HBD.out (Nat.le_refl _) _) (Nat.le_refl _) _⟩
          refine AllReadyH.cons (o := { dst := some 127, op := Op.load 3 (Operand.tmp 126), type := 3, pos := "frag.go:168", after := #[{ on := 5, ground := Ground.data }], guard := none }) rfl (fun K hK => ?_) ?_
          ·go_simp; refine hK.out _ _ hHeld (fun hHeld => ?_)
           clear hK K
           try simp only [Act.put, List.setIfInBounds_toArray, List.set_cons_zero, List.set_cons_succ]
           refine wpAnyH_ready (rs := [2, 9]) (by kernel_rfl) (by simp) ?_
           refine AllReadyH.cons (o := { dst := some 123, op := Op.load 3 (Operand.tmp 122), type := 3, pos := "frag.go:168", after := #[{ on := 1, ground := Ground.data }], guard := none }) rfl (fun K hK => ?_) ?_
           ·go_simp; refine hK.out _ _ hHeld (fun hHeld => ?_)
            clear hK K
            try simp only [Act.put, List.setIfInBounds_toArray, List.set_cons_zero, List.set_cons_succ]
            refine wpAnyH_take (i := 3) (oi := { dst := some 124, op := Op.indexAddr 91 (Operand.tmp 121) (Operand.tmp 123), type := 0, pos := "frag.go:168", after := #[{ on := 0, ground := Ground.data }, { on := 2, ground := Ground.data }], guard := none }) (v := ?pmbav3) rfl (by kernel_rfl) (by kernel_rfl) (by kernel_rfl) (fun _ _ _ h => h) (Or.inl ⟨by rfl, ?pmbah3⟩) (by assumption) ?pmbar3
            case pmbah3 => ((intro w hSw; (try dsimp only at hSw); go_simp); try with_reducible rfl)
            try simp only [Act.put, List.setIfInBounds_toArray, List.set_cons_zero, List.set_cons_succ]
            refine wpAnyH_take (i := 4) (oi := { dst := some 125, op := Op.load 3 (Operand.tmp 124), type := 3, pos := "frag.go:168", after := #[{ on := 3, ground := Ground.data }], guard := none }) (v := ?pmbav4) rfl (by kernel_rfl) (by kernel_rfl) (by kernel_rfl) (fun _ _ _ h => h) (Or.inl ⟨by rfl, ?pmbah4⟩) (by assumption) ?pmbar4
            case pmbah4 => ((intro w hSw; (try dsimp only at hSw); go_simp); try with_reducible rfl)
            try simp only [Act.put, List.setIfInBounds_toArray, List.set_cons_zero, List.set_cons_succ]
            refine wpAnyH_ready (rs := [9]) (by kernel_rfl) (by simp) ?_
            refine AllReadyH.cons (o := { dst := some 130, op := Op.load 3 (Operand.tmp 129), type := 3, pos := "frag.go:168", after := #[{ on := 8, ground := Ground.data }], guard := none }) rfl (fun K hK => ?_) AllReadyH.nil
            go_simp; refine hK.out _ _ hHeld (fun hHeld => ?_)
            clear hK K
            try simp only [Act.put, List.setIfInBounds_toArray, List.set_cons_zero, List.set_cons_succ]
            refine wpAnyH_take (i := 10) (oi := { dst := some 131, op := Op.indexAddr 91 (Operand.tmp 128) (Operand.tmp 130), type := 0, pos := "frag.go:168", after := #[{ on := 7, ground := Ground.data }, { on := 9, ground := Ground.data }], guard := none }) (v := ?pmbav10) rfl (by kernel_rfl) (by kernel_rfl) (by kernel_rfl) (fun _ _ _ h => h) (Or.inl ⟨by rfl, ?pmbah10⟩) (by assumption) ?pmbar10
            case pmbah10 => ((intro w hSw; (try dsimp only at hSw); go_simp); try with_reducible rfl)
            try simp only [Act.put, List.setIfInBounds_toArray, List.set_cons_zero, List.set_cons_succ]
            refine wpAnyH_take (i := 11) (oi := { dst := some 132, op := Op.load 3 (Operand.tmp 131), type := 3, pos := "frag.go:168", after := #[{ on := 10, ground := Ground.data }], guard := none }) (v := ?pmbav11) rfl (by kernel_rfl) (by kernel_rfl) (by kernel_rfl) (fun _ _ _ h => h) (Or.inl ⟨by rfl, ?pmbah11⟩) (by assumption) ?pmbar11
            case pmbah11 => ((intro w hSw; (try dsimp only at hSw); go_simp); try with_reducible rfl)
            try simp only [Act.put, List.setIfInBounds_toArray, List.set_cons_zero, List.set_cons_succ]
            refine wpAnyH_take (i := 12) (oi := { dst := some 133, op := Op.binOp BinOp.add 3 (Operand.tmp 127) (Operand.tmp 132) 3, type := 3, pos := "frag.go:168", after := #[{ on := 6, ground := Ground.data }, { on := 11, ground := Ground.data }], guard := none }) (v := ?pmbav12) rfl (by kernel_rfl) (by kernel_rfl) (by kernel_rfl) (fun _ _ _ h => h) (Or.inl ⟨by rfl, ?pmbah12⟩) (by assumption) ?pmbar12
            case pmbah12 => ((intro w hSw; (try dsimp only at hSw); go_simp); try with_reducible rfl)
            try simp only [Act.put, List.setIfInBounds_toArray, List.set_cons_zero, List.set_cons_succ]
            refine wpAnyH_take (i := 13) (oi := { dst := some 134, op := Op.fieldAddr 81 (Operand.tmp 16) 3, type := 0, pos := "frag.go:168", after := #[{ on := 0, ground := Ground.phase }, { on := 1, ground := Ground.phase }, { on := 2, ground := Ground.phase }, { on := 3, ground := Ground.phase }, { on := 4, ground := Ground.phase }, { on := 5, ground := Ground.phase }, { on := 6, ground := Ground.phase }, { on := 7, ground := Ground.textOnly Departure.lateStores }, { on := 8, ground := Ground.phase }, { on := 9, ground := Ground.phase }, { on := 10, ground := Ground.textOnly Departure.lateStoresUnsure }, { on := 11, ground := Ground.textOnly Departure.lateStoresUnsure }, { on := 12, ground := Ground.textOnly Departure.lateStoresUnsure }], guard := none }) (v := ?pmbav13) rfl (by kernel_rfl) (by kernel_rfl) (by kernel_rfl) (fun _ _ _ h => h) (Or.inl ⟨by rfl, ?pmbah13⟩) (by assumption) ?pmbar13
            case pmbah13 => ((intro w hSw; (try dsimp only at hSw); go_simp); try with_reducible rfl)
            try simp only [Act.put, List.setIfInBounds_toArray, List.set_cons_zero, List.set_cons_succ]
            refine wpAnyH_ready (rs := [14]) (by kernel_rfl) (by simp) ?_
            refine AllReadyH.cons (o := { dst := none, op := Op.store 3 (Operand.tmp 134) (Operand.tmp 125), type := 0, pos := "frag.go:168", after := #[{ on := 13, ground := Ground.data }, { on := 4, ground := Ground.data }, { on := 0, ground := Ground.phase }, { on := 1, ground := Ground.phase }, { on := 2, ground := Ground.phase }, { on := 3, ground := Ground.phase }, { on := 4, ground := Ground.phase }, { on := 5, ground := Ground.phase }, { on := 6, ground := Ground.phase }, { on := 7, ground := Ground.textOnly Departure.lateStores }, { on := 8, ground := Ground.phase }, { on := 9, ground := Ground.phase }, { on := 10, ground := Ground.textOnly Departure.lateStoresUnsure }, { on := 11, ground := Ground.textOnly Departure.lateStoresUnsure }, { on := 12, ground := Ground.textOnly Departure.lateStoresUnsure }], guard := none }) rfl (fun K hK => ?_) AllReadyH.nil
            go_simp; refine hK.out _ _ (HSS.out _ _ _ hHeld) (fun hHeld => ?_)
            clear hK K
            try simp only [Act.put, List.setIfInBounds_toArray, List.set_cons_zero, List.set_cons_succ]
            refine wpAnyH_take (i := 15) (oi := { dst := some 135, op := Op.fieldAddr 81 (Operand.tmp 16) 4, type := 0, pos := "frag.go:168", after := #[{ on := 0, ground := Ground.phase }, { on := 1, ground := Ground.phase }, { on := 2, ground := Ground.phase }, { on := 3, ground := Ground.phase }, { on := 4, ground := Ground.phase }, { on := 5, ground := Ground.phase }, { on := 6, ground := Ground.phase }, { on := 7, ground := Ground.phase }, { on := 8, ground := Ground.phase }, { on := 9, ground := Ground.phase }, { on := 10, ground := Ground.phase }, { on := 11, ground := Ground.phase }, { on := 12, ground := Ground.phase }, { on := 13, ground := Ground.phase }, { on := 14, ground := Ground.phase }], guard := none }) (v := ?pmbav15) rfl (by kernel_rfl) (by kernel_rfl) (by kernel_rfl) (fun _ _ _ h => h) (Or.inl ⟨by rfl, ?pmbah15⟩) (by assumption) ?pmbar15
            case pmbah15 => ((intro w hSw; (try dsimp only at hSw); go_simp); try with_reducible rfl)
            try simp only [Act.put, List.setIfInBounds_toArray, List.set_cons_zero, List.set_cons_succ]
            refine wpAnyH_ready (rs := [16]) (by kernel_rfl) (by simp) ?_
            refine AllReadyH.cons (o := { dst := none, op := Op.store 3 (Operand.tmp 135) (Operand.tmp 133), type := 0, pos := "frag.go:168", after := #[{ on := 15, ground := Ground.data }, { on := 12, ground := Ground.data }, { on := 14, ground := Ground.chain }, { on := 0, ground := Ground.phase }, { on := 1, ground := Ground.phase }, { on := 2, ground := Ground.phase }, { on := 3, ground := Ground.phase }, { on := 4, ground := Ground.phase }, { on := 5, ground := Ground.phase }, { on := 6, ground := Ground.phase }, { on := 7, ground := Ground.phase }, { on := 8, ground := Ground.phase }, { on := 9, ground := Ground.phase }, { on := 10, ground := Ground.phase }, { on := 11, ground := Ground.phase }, { on := 12, ground := Ground.phase }, { on := 13, ground := Ground.phase }, { on := 14, ground := Ground.phase }], guard := none }) rfl (fun K hK => ?_) AllReadyH.nil
            go_simp; refine hK.out _ _ (HSS.out _ _ _ hHeld) (fun hHeld => ?_)
            clear hK K
            try simp only [Act.put, List.setIfInBounds_toArray, List.set_cons_zero, List.set_cons_succ]
            refine wpAnyH_done (by kernel_rfl) ?_ _
            go_wp2_with fail
            go_meet
            rw [HMV.out]
            exact ⟨mbx_set HXD.out _ _, Below.setCell (p := ⟨wm.heap.size, 4, none⟩) (Below.setCell (p := ⟨wm.heap.size, 3, none⟩) HBD.out (Nat.le_refl _) _) (Nat.le_refl _) _⟩
           refine AllReadyH.cons (o := { dst := some 130, op := Op.load 3 (Operand.tmp 129), type := 3, pos := "frag.go:168", after := #[{ on := 8, ground := Ground.data }], guard := none }) rfl (fun K hK => ?_) AllReadyH.nil
           go_simp; refine hK.out _ _ hHeld (fun hHeld => ?_)
           clear hK K
           try simp only [Act.put, List.setIfInBounds_toArray, List.set_cons_zero, List.set_cons_succ]
           refine wpAnyH_take (i := 10) (oi := { dst := some 131, op := Op.indexAddr 91 (Operand.tmp 128) (Operand.tmp 130), type := 0, pos := "frag.go:168", after := #[{ on := 7, ground := Ground.data }, { on := 9, ground := Ground.data }], guard := none }) (v := ?pmbbv10) rfl (by kernel_rfl) (by kernel_rfl) (by kernel_rfl) (fun _ _ _ h => h) (Or.inl ⟨by rfl, ?pmbbh10⟩) (by assumption) ?pmbbr10
           case pmbbh10 => ((intro w hSw; (try dsimp only at hSw); go_simp); try with_reducible rfl)
           try simp only [Act.put, List.setIfInBounds_toArray, List.set_cons_zero, List.set_cons_succ]
           refine wpAnyH_take (i := 11) (oi := { dst := some 132, op := Op.load 3 (Operand.tmp 131), type := 3, pos := "frag.go:168", after := #[{ on := 10, ground := Ground.data }], guard := none }) (v := ?pmbbv11) rfl (by kernel_rfl) (by kernel_rfl) (by kernel_rfl) (fun _ _ _ h => h) (Or.inl ⟨by rfl, ?pmbbh11⟩) (by assumption) ?pmbbr11
           case pmbbh11 => ((intro w hSw; (try dsimp only at hSw); go_simp); try with_reducible rfl)
           try simp only [Act.put, List.setIfInBounds_toArray, List.set_cons_zero, List.set_cons_succ]
           refine wpAnyH_take (i := 12) (oi := { dst := some 133, op := Op.binOp BinOp.add 3 (Operand.tmp 127) (Operand.tmp 132) 3, type := 3, pos := "frag.go:168", after := #[{ on := 6, ground := Ground.data }, { on := 11, ground := Ground.data }], guard := none }) (v := ?pmbbv12) rfl (by kernel_rfl) (by kernel_rfl) (by kernel_rfl) (fun _ _ _ h => h) (Or.inl ⟨by rfl, ?pmbbh12⟩) (by assumption) ?pmbbr12
           case pmbbh12 => ((intro w hSw; (try dsimp only at hSw); go_simp); try with_reducible rfl)
           try simp only [Act.put, List.setIfInBounds_toArray, List.set_cons_zero, List.set_cons_succ]
           refine wpAnyH_ready (rs := [2]) (by kernel_rfl) (by simp) ?_
           refine AllReadyH.cons (o := { dst := some 123, op := Op.load 3 (Operand.tmp 122), type := 3, pos := "frag.go:168", after := #[{ on := 1, ground := Ground.data }], guard := none }) rfl (fun K hK => ?_) AllReadyH.nil
           go_simp; refine hK.out _ _ hHeld (fun hHeld => ?_)
           clear hK K
           try simp only [Act.put, List.setIfInBounds_toArray, List.set_cons_zero, List.set_cons_succ]
           refine wpAnyH_take (i := 3) (oi := { dst := some 124, op := Op.indexAddr 91 (Operand.tmp 121) (Operand.tmp 123), type := 0, pos := "frag.go:168", after := #[{ on := 0, ground := Ground.data }, { on := 2, ground := Ground.data }], guard := none }) (v := ?pmbbv3) rfl (by kernel_rfl) (by kernel_rfl) (by kernel_rfl) (fun _ _ _ h => h) (Or.inl ⟨by rfl, ?pmbbh3⟩) (by assumption) ?pmbbr3
           case pmbbh3 => ((intro w hSw; (try dsimp only at hSw); go_simp); try with_reducible rfl)
           try simp only [Act.put, List.setIfInBounds_toArray, List.set_cons_zero, List.set_cons_succ]
           refine wpAnyH_take (i := 4) (oi := { dst := some 125, op := Op.load 3 (Operand.tmp 124), type := 3, pos := "frag.go:168", after := #[{ on := 3, ground := Ground.data }], guard := none }) (v := ?pmbbv4) rfl (by kernel_rfl) (by kernel_rfl) (by kernel_rfl) (fun _ _ _ h => h) (Or.inl ⟨by rfl, ?pmbbh4⟩) (by assumption) ?pmbbr4
           case pmbbh4 => ((intro w hSw; (try dsimp only at hSw); go_simp); try with_reducible rfl)
           try simp only [Act.put, List.setIfInBounds_toArray, List.set_cons_zero, List.set_cons_succ]
           refine wpAnyH_take (i := 13) (oi := { dst := some 134, op := Op.fieldAddr 81 (Operand.tmp 16) 3, type := 0, pos := "frag.go:168", after := #[{ on := 0, ground := Ground.phase }, { on := 1, ground := Ground.phase }, { on := 2, ground := Ground.phase }, { on := 3, ground := Ground.phase }, { on := 4, ground := Ground.phase }, { on := 5, ground := Ground.phase }, { on := 6, ground := Ground.phase }, { on := 7, ground := Ground.textOnly Departure.lateStores }, { on := 8, ground := Ground.phase }, { on := 9, ground := Ground.phase }, { on := 10, ground := Ground.textOnly Departure.lateStoresUnsure }, { on := 11, ground := Ground.textOnly Departure.lateStoresUnsure }, { on := 12, ground := Ground.textOnly Departure.lateStoresUnsure }], guard := none }) (v := ?pmbbv13) rfl (by kernel_rfl) (by kernel_rfl) (by kernel_rfl) (fun _ _ _ h => h) (Or.inl ⟨by rfl, ?pmbbh13⟩) (by assumption) ?pmbbr13
           case pmbbh13 => ((intro w hSw; (try dsimp only at hSw); go_simp); try with_reducible rfl)
           try simp only [Act.put, List.setIfInBounds_toArray, List.set_cons_zero, List.set_cons_succ]
           refine wpAnyH_ready (rs := [14]) (by kernel_rfl) (by simp) ?_
           refine AllReadyH.cons (o := { dst := none, op := Op.store 3 (Operand.tmp 134) (Operand.tmp 125), type := 0, pos := "frag.go:168", after := #[{ on := 13, ground := Ground.data }, { on := 4, ground := Ground.data }, { on := 0, ground := Ground.phase }, { on := 1, ground := Ground.phase }, { on := 2, ground := Ground.phase }, { on := 3, ground := Ground.phase }, { on := 4, ground := Ground.phase }, { on := 5, ground := Ground.phase }, { on := 6, ground := Ground.phase }, { on := 7, ground := Ground.textOnly Departure.lateStores }, { on := 8, ground := Ground.phase }, { on := 9, ground := Ground.phase }, { on := 10, ground := Ground.textOnly Departure.lateStoresUnsure }, { on := 11, ground := Ground.textOnly Departure.lateStoresUnsure }, { on := 12, ground := Ground.textOnly Departure.lateStoresUnsure }], guard := none }) rfl (fun K hK => ?_) AllReadyH.nil
           go_simp; refine hK.out _ _ (HSS.out _ _ _ hHeld) (fun hHeld => ?_)
           clear hK K
           try simp only [Act.put, List.setIfInBounds_toArray, List.set_cons_zero, List.set_cons_succ]
           refine wpAnyH_take (i := 15) (oi := { dst := some 135, op := Op.fieldAddr 81 (Operand.tmp 16) 4, type := 0, pos := "frag.go:168", after := #[{ on := 0, ground := Ground.phase }, { on := 1, ground := Ground.phase }, { on := 2, ground := Ground.phase }, { on := 3, ground := Ground.phase }, { on := 4, ground := Ground.phase }, { on := 5, ground := Ground.phase }, { on := 6, ground := Ground.phase }, { on := 7, ground := Ground.phase }, { on := 8, ground := Ground.phase }, { on := 9, ground := Ground.phase }, { on := 10, ground := Ground.phase }, { on := 11, ground := Ground.phase }, { on := 12, ground := Ground.phase }, { on := 13, ground := Ground.phase }, { on := 14, ground := Ground.phase }], guard := none }) (v := ?pmbbv15) rfl (by kernel_rfl) (by kernel_rfl) (by kernel_rfl) (fun _ _ _ h => h) (Or.inl ⟨by rfl, ?pmbbh15⟩) (by assumption) ?pmbbr15
           case pmbbh15 => ((intro w hSw; (try dsimp only at hSw); go_simp); try with_reducible rfl)
           try simp only [Act.put, List.setIfInBounds_toArray, List.set_cons_zero, List.set_cons_succ]
           refine wpAnyH_ready (rs := [16]) (by kernel_rfl) (by simp) ?_
           refine AllReadyH.cons (o := { dst := none, op := Op.store 3 (Operand.tmp 135) (Operand.tmp 133), type := 0, pos := "frag.go:168", after := #[{ on := 15, ground := Ground.data }, { on := 12, ground := Ground.data }, { on := 14, ground := Ground.chain }, { on := 0, ground := Ground.phase }, { on := 1, ground := Ground.phase }, { on := 2, ground := Ground.phase }, { on := 3, ground := Ground.phase }, { on := 4, ground := Ground.phase }, { on := 5, ground := Ground.phase }, { on := 6, ground := Ground.phase }, { on := 7, ground := Ground.phase }, { on := 8, ground := Ground.phase }, { on := 9, ground := Ground.phase }, { on := 10, ground := Ground.phase }, { on := 11, ground := Ground.phase }, { on := 12, ground := Ground.phase }, { on := 13, ground := Ground.phase }, { on := 14, ground := Ground.phase }], guard := none }) rfl (fun K hK => ?_) AllReadyH.nil
           go_simp; refine hK.out _ _ (HSS.out _ _ _ hHeld) (fun hHeld => ?_)
           clear hK K
           try simp only [Act.put, List.setIfInBounds_toArray, List.set_cons_zero, List.set_cons_succ]
           refine wpAnyH_done (by kernel_rfl) ?_ _
           go_wp2_with fail
           go_meet
           rw [HMV.out]
           exact ⟨mbx_set HXD.out _ _, Below.setCell (p := ⟨wm.heap.size, 4, none⟩) (Below.setCell (p := ⟨wm.heap.size, 3, none⟩) HBD.out (Nat.le_refl _) _) (Nat.le_refl _) _⟩
          refine AllReadyH.cons (o := { dst := some 130, op := Op.load 3 (Operand.tmp 129), type := 3, pos := "frag.go:168", after := #[{ on := 8, ground := Ground.data }], guard := none }) rfl (fun K hK => ?_) AllReadyH.nil
          go_simp; refine hK.out _ _ hHeld (fun hHeld => ?_)
          clear hK K
          try simp only [Act.put, List.setIfInBounds_toArray, List.set_cons_zero, List.set_cons_succ]
          refine wpAnyH_take (i := 10) (oi := { dst := some 131, op := Op.indexAddr 91 (Operand.tmp 128) (Operand.tmp 130), type := 0, pos := "frag.go:168", after := #[{ on := 7, ground := Ground.data }, { on := 9, ground := Ground.data }], guard := none }) (v := ?pmcv10) rfl (by kernel_rfl) (by kernel_rfl) (by kernel_rfl) (fun _ _ _ h => h) (Or.inl ⟨by rfl, ?pmch10⟩) (by assumption) ?pmcr10
          case pmch10 => ((intro w hSw; (try dsimp only at hSw); go_simp); try with_reducible rfl)
          try simp only [Act.put, List.setIfInBounds_toArray, List.set_cons_zero, List.set_cons_succ]
          refine wpAnyH_take (i := 11) (oi := { dst := some 132, op := Op.load 3 (Operand.tmp 131), type := 3, pos := "frag.go:168", after := #[{ on := 10, ground := Ground.data }], guard := none }) (v := ?pmcv11) rfl (by kernel_rfl) (by kernel_rfl) (by kernel_rfl) (fun _ _ _ h => h) (Or.inl ⟨by rfl, ?pmch11⟩) (by assumption) ?pmcr11
          case pmch11 => ((intro w hSw; (try dsimp only at hSw); go_simp); try with_reducible rfl)
          try simp only [Act.put, List.setIfInBounds_toArray, List.set_cons_zero, List.set_cons_succ]
          refine wpAnyH_ready (rs := [2, 6]) (by kernel_rfl) (by simp) ?_
          refine AllReadyH.cons (o := { dst := some 123, op := Op.load 3 (Operand.tmp 122), type := 3, pos := "frag.go:168", after := #[{ on := 1, ground := Ground.data }], guard := none }) rfl (fun K hK => ?_) ?_
          ·go_simp; refine hK.out _ _ hHeld (fun hHeld => ?_)
           clear hK K
           try simp only [Act.put, List.setIfInBounds_toArray, List.set_cons_zero, List.set_cons_succ]
           refine wpAnyH_take (i := 3) (oi := { dst := some 124, op := Op.indexAddr 91 (Operand.tmp 121) (Operand.tmp 123), type := 0, pos := "frag.go:168", after := #[{ on := 0, ground := Ground.data }, { on := 2, ground := Ground.data }], guard := none }) (v := ?pmcav3) rfl (by kernel_rfl) (by kernel_rfl) (by kernel_rfl) (fun _ _ _ h => h) (Or.inl ⟨by rfl, ?pmcah3⟩) (by assumption) ?pmcar3
           case pmcah3 => ((intro w hSw; (try dsimp only at hSw); go_simp); try with_reducible rfl)
           try simp only [Act.put, List.setIfInBounds_toArray, List.set_cons_zero, List.set_cons_succ]
           refine wpAnyH_take (i := 4) (oi := { dst := some 125, op := Op.load 3 (Operand.tmp 124), type := 3, pos := "frag.go:168", after := #[{ on := 3, ground := Ground.data }], guard := none }) (v := ?pmcav4) rfl (by kernel_rfl) (by kernel_rfl) (by kernel_rfl) (fun _ _ _ h => h) (Or.inl ⟨by rfl, ?pmcah4⟩) (by assumption) ?pmcar4
           case pmcah4 => ((intro w hSw; (try dsimp only at hSw); go_simp); try with_reducible rfl)
           try simp only [Act.put, List.setIfInBounds_toArray, List.set_cons_zero, List.set_cons_succ]
           refine wpAnyH_ready (rs := [6]) (by kernel_rfl) (by simp) ?_
           refine AllReadyH.cons (o := { dst := some 127, op := Op.load 3 (Operand.tmp 126), type := 3, pos := "frag.go:168", after := #[{ on := 5, ground := Ground.data }], guard := none }) rfl (fun K hK => ?_) AllReadyH.nil
           go_simp; refine hK.out _ _ hHeld (fun hHeld => ?_)
           clear hK K
           try simp only [Act.put, List.setIfInBounds_toArray, List.set_cons_zero, List.set_cons_succ]
           refine wpAnyH_take (i := 12) (oi := { dst := some 133, op := Op.binOp BinOp.add 3 (Operand.tmp 127) (Operand.tmp 132) 3, type := 3, pos := "frag.go:168", after := #[{ on := 6, ground := Ground.data }, { on := 11, ground := Ground.data }], guard := none }) (v := ?pmcav12) rfl (by kernel_rfl) (by kernel_rfl) (by kernel_rfl) (fun _ _ _ h => h) (Or.inl ⟨by rfl, ?pmcah12⟩) (by assumption) ?pmcar12
           case pmcah12 => ((intro w hSw; (try dsimp only at hSw); go_simp); try with_reducible rfl)
           try simp only [Act.put, List.setIfInBounds_toArray, List.set_cons_zero, List.set_cons_succ]
           refine wpAnyH_take (i := 13) (oi := { dst := some 134, op := Op.fieldAddr 81 (Operand.tmp 16) 3, type := 0, pos := "frag.go:168", after := #[{ on := 0, ground := Ground.phase }, { on := 1, ground := Ground.phase }, { on := 2, ground := Ground.phase }, { on := 3, ground := Ground.phase }, { on := 4, ground := Ground.phase }, { on := 5, ground := Ground.phase }, { on := 6, ground := Ground.phase }, { on := 7, ground := Ground.textOnly Departure.lateStores }, { on := 8, ground := Ground.phase }, { on := 9, ground := Ground.phase }, { on := 10, ground := Ground.textOnly Departure.lateStoresUnsure }, { on := 11, ground := Ground.textOnly Departure.lateStoresUnsure }, { on := 12, ground := Ground.textOnly Departure.lateStoresUnsure }], guard := none }) (v := ?pmcav13) rfl (by kernel_rfl) (by kernel_rfl) (by kernel_rfl) (fun _ _ _ h => h) (Or.inl ⟨by rfl, ?pmcah13⟩) (by assumption) ?pmcar13
           case pmcah13 => ((intro w hSw; (try dsimp only at hSw); go_simp); try with_reducible rfl)
           try simp only [Act.put, List.setIfInBounds_toArray, List.set_cons_zero, List.set_cons_succ]
           refine wpAnyH_ready (rs := [14]) (by kernel_rfl) (by simp) ?_
           refine AllReadyH.cons (o := { dst := none, op := Op.store 3 (Operand.tmp 134) (Operand.tmp 125), type := 0, pos := "frag.go:168", after := #[{ on := 13, ground := Ground.data }, { on := 4, ground := Ground.data }, { on := 0, ground := Ground.phase }, { on := 1, ground := Ground.phase }, { on := 2, ground := Ground.phase }, { on := 3, ground := Ground.phase }, { on := 4, ground := Ground.phase }, { on := 5, ground := Ground.phase }, { on := 6, ground := Ground.phase }, { on := 7, ground := Ground.textOnly Departure.lateStores }, { on := 8, ground := Ground.phase }, { on := 9, ground := Ground.phase }, { on := 10, ground := Ground.textOnly Departure.lateStoresUnsure }, { on := 11, ground := Ground.textOnly Departure.lateStoresUnsure }, { on := 12, ground := Ground.textOnly Departure.lateStoresUnsure }], guard := none }) rfl (fun K hK => ?_) AllReadyH.nil
           go_simp; refine hK.out _ _ (HSS.out _ _ _ hHeld) (fun hHeld => ?_)
           clear hK K
           try simp only [Act.put, List.setIfInBounds_toArray, List.set_cons_zero, List.set_cons_succ]
           refine wpAnyH_take (i := 15) (oi := { dst := some 135, op := Op.fieldAddr 81 (Operand.tmp 16) 4, type := 0, pos := "frag.go:168", after := #[{ on := 0, ground := Ground.phase }, { on := 1, ground := Ground.phase }, { on := 2, ground := Ground.phase }, { on := 3, ground := Ground.phase }, { on := 4, ground := Ground.phase }, { on := 5, ground := Ground.phase }, { on := 6, ground := Ground.phase }, { on := 7, ground := Ground.phase }, { on := 8, ground := Ground.phase }, { on := 9, ground := Ground.phase }, { on := 10, ground := Ground.phase }, { on := 11, ground := Ground.phase }, { on := 12, ground := Ground.phase }, { on := 13, ground := Ground.phase }, { on := 14, ground := Ground.phase }], guard := none }) (v := ?pmcav15) rfl (by kernel_rfl) (by kernel_rfl) (by kernel_rfl) (fun _ _ _ h => h) (Or.inl ⟨by rfl, ?pmcah15⟩) (by assumption) ?pmcar15
           case pmcah15 => ((intro w hSw; (try dsimp only at hSw); go_simp); try with_reducible rfl)
           try simp only [Act.put, List.setIfInBounds_toArray, List.set_cons_zero, List.set_cons_succ]
           refine wpAnyH_ready (rs := [16]) (by kernel_rfl) (by simp) ?_
           refine AllReadyH.cons (o := { dst := none, op := Op.store 3 (Operand.tmp 135) (Operand.tmp 133), type := 0, pos := "frag.go:168", after := #[{ on := 15, ground := Ground.data }, { on := 12, ground := Ground.data }, { on := 14, ground := Ground.chain }, { on := 0, ground := Ground.phase }, { on := 1, ground := Ground.phase }, { on := 2, ground := Ground.phase }, { on := 3, ground := Ground.phase }, { on := 4, ground := Ground.phase }, { on := 5, ground := Ground.phase }, { on := 6, ground := Ground.phase }, { on := 7, ground := Ground.phase }, { on := 8, ground := Ground.phase }, { on := 9, ground := Ground.phase }, { on := 10, ground := Ground.phase }, { on := 11, ground := Ground.phase }, { on := 12, ground := Ground.phase }, { on := 13, ground := Ground.phase }, { on := 14, ground := Ground.phase }], guard := none }) rfl (fun K hK => ?_) AllReadyH.nil
           go_simp; refine hK.out _ _ (HSS.out _ _ _ hHeld) (fun hHeld => ?_)
           clear hK K
           try simp only [Act.put, List.setIfInBounds_toArray, List.set_cons_zero, List.set_cons_succ]
           refine wpAnyH_done (by kernel_rfl) ?_ _
           go_wp2_with fail
           go_meet
           rw [HMV.out]
           exact ⟨mbx_set HXD.out _ _, Below.setCell (p := ⟨wm.heap.size, 4, none⟩) (Below.setCell (p := ⟨wm.heap.size, 3, none⟩) HBD.out (Nat.le_refl _) _) (Nat.le_refl _) _⟩
          refine AllReadyH.cons (o := { dst := some 127, op := Op.load 3 (Operand.tmp 126), type := 3, pos := "frag.go:168", after := #[{ on := 5, ground := Ground.data }], guard := none }) rfl (fun K hK => ?_) AllReadyH.nil
          go_simp; refine hK.out _ _ hHeld (fun hHeld => ?_)
          clear hK K
          try simp only [Act.put, List.setIfInBounds_toArray, List.set_cons_zero, List.set_cons_succ]
          refine wpAnyH_take (i := 12) (oi := { dst := some 133, op := Op.binOp BinOp.add 3 (Operand.tmp 127) (Operand.tmp 132) 3, type := 3, pos := "frag.go:168", after := #[{ on := 6, ground := Ground.data }, { on := 11, ground := Ground.data }], guard := none }) (v := ?pmcbv12) rfl (by kernel_rfl) (by kernel_rfl) (by kernel_rfl) (fun _ _ _ h => h) (Or.inl ⟨by rfl, ?pmcbh12⟩) (by assumption) ?pmcbr12
          case pmcbh12 => ((intro w hSw; (try dsimp only at hSw); go_simp); try with_reducible rfl)
          try simp only [Act.put, List.setIfInBounds_toArray, List.set_cons_zero, List.set_cons_succ]
          refine wpAnyH_ready (rs := [2]) (by kernel_rfl) (by simp) ?_
          refine AllReadyH.cons (o := { dst := some 123, op := Op.load 3 (Operand.tmp 122), type := 3, pos := "frag.go:168", after := #[{ on := 1, ground := Ground.data }], guard := none }) rfl (fun K hK => ?_) AllReadyH.nil
          go_simp; refine hK.out _ _ hHeld (fun hHeld => ?_)
          clear hK K
          try simp only [Act.put, List.setIfInBounds_toArray, List.set_cons_zero, List.set_cons_succ]
          refine wpAnyH_take (i := 3) (oi := { dst := some 124, op := Op.indexAddr 91 (Operand.tmp 121) (Operand.tmp 123), type := 0, pos := "frag.go:168", after := #[{ on := 0, ground := Ground.data }, { on := 2, ground := Ground.data }], guard := none }) (v := ?pmcbv3) rfl (by kernel_rfl) (by kernel_rfl) (by kernel_rfl) (fun _ _ _ h => h) (Or.inl ⟨by rfl, ?pmcbh3⟩) (by assumption) ?pmcbr3
          case pmcbh3 => ((intro w hSw; (try dsimp only at hSw); go_simp); try with_reducible rfl)
          try simp only [Act.put, List.setIfInBounds_toArray, List.set_cons_zero, List.set_cons_succ]
          refine wpAnyH_take (i := 4) (oi := { dst := some 125, op := Op.load 3 (Operand.tmp 124), type := 3, pos := "frag.go:168", after := #[{ on := 3, ground := Ground.data }], guard := none }) (v := ?pmcbv4) rfl (by kernel_rfl) (by kernel_rfl) (by kernel_rfl) (fun _ _ _ h => h) (Or.inl ⟨by rfl, ?pmcbh4⟩) (by assumption) ?pmcbr4
          case pmcbh4 => ((intro w hSw; (try dsimp only at hSw); go_simp); try with_reducible rfl)
          try simp only [Act.put, List.setIfInBounds_toArray, List.set_cons_zero, List.set_cons_succ]
          refine wpAnyH_take (i := 13) (oi := { dst := some 134, op := Op.fieldAddr 81 (Operand.tmp 16) 3, type := 0, pos := "frag.go:168", after := #[{ on := 0, ground := Ground.phase }, { on := 1, ground := Ground.phase }, { on := 2, ground := Ground.phase }, { on := 3, ground := Ground.phase }, { on := 4, ground := Ground.phase }, { on := 5, ground := Ground.phase }, { on := 6, ground := Ground.phase }, { on := 7, ground := Ground.textOnly Departure.lateStores }, { on := 8, ground := Ground.phase }, { on := 9, ground := Ground.phase }, { on := 10, ground := Ground.textOnly Departure.lateStoresUnsure }, { on := 11, ground := Ground.textOnly Departure.lateStoresUnsure }, { on := 12, ground := Ground.textOnly Departure.lateStoresUnsure }], guard := none }) (v := ?pmcbv13) rfl (by kernel_rfl) (by kernel_rfl) (by kernel_rfl) (fun _ _ _ h => h) (Or.inl ⟨by rfl, ?pmcbh13⟩) (by assumption) ?pmcbr13
          case pmcbh13 => ((intro w hSw; (try dsimp only at hSw); go_simp); try with_reducible rfl)
          try simp only [Act.put, List.setIfInBounds_toArray, List.set_cons_zero, List.set_cons_succ]
          refine wpAnyH_ready (rs := [14]) (by kernel_rfl) (by simp) ?_
          refine AllReadyH.cons (o := { dst := none, op := Op.store 3 (Operand.tmp 134) (Operand.tmp 125), type := 0, pos := "frag.go:168", after := #[{ on := 13, ground := Ground.data }, { on := 4, ground := Ground.data }, { on := 0, ground := Ground.phase }, { on := 1, ground := Ground.phase }, { on := 2, ground := Ground.phase }, { on := 3, ground := Ground.phase }, { on := 4, ground := Ground.phase }, { on := 5, ground := Ground.phase }, { on := 6, ground := Ground.phase }, { on := 7, ground := Ground.textOnly Departure.lateStores }, { on := 8, ground := Ground.phase }, { on := 9, ground := Ground.phase }, { on := 10, ground := Ground.textOnly Departure.lateStoresUnsure }, { on := 11, ground := Ground.textOnly Departure.lateStoresUnsure }, { on := 12, ground := Ground.textOnly Departure.lateStoresUnsure }], guard := none }) rfl (fun K hK => ?_) AllReadyH.nil
          go_simp; refine hK.out _ _ (HSS.out _ _ _ hHeld) (fun hHeld => ?_)
          clear hK K
          try simp only [Act.put, List.setIfInBounds_toArray, List.set_cons_zero, List.set_cons_succ]
          refine wpAnyH_take (i := 15) (oi := { dst := some 135, op := Op.fieldAddr 81 (Operand.tmp 16) 4, type := 0, pos := "frag.go:168", after := #[{ on := 0, ground := Ground.phase }, { on := 1, ground := Ground.phase }, { on := 2, ground := Ground.phase }, { on := 3, ground := Ground.phase }, { on := 4, ground := Ground.phase }, { on := 5, ground := Ground.phase }, { on := 6, ground := Ground.phase }, { on := 7, ground := Ground.phase }, { on := 8, ground := Ground.phase }, { on := 9, ground := Ground.phase }, { on := 10, ground := Ground.phase }, { on := 11, ground := Ground.phase }, { on := 12, ground := Ground.phase }, { on := 13, ground := Ground.phase }, { on := 14, ground := Ground.phase }], guard := none }) (v := ?pmcbv15) rfl (by kernel_rfl) (by kernel_rfl) (by kernel_rfl) (fun _ _ _ h => h) (Or.inl ⟨by rfl, ?pmcbh15⟩) (by assumption) ?pmcbr15
          case pmcbh15 => ((intro w hSw; (try dsimp only at hSw); go_simp); try with_reducible rfl)
          try simp only [Act.put, List.setIfInBounds_toArray, List.set_cons_zero, List.set_cons_succ]
          refine wpAnyH_ready (rs := [16]) (by kernel_rfl) (by simp) ?_
          refine AllReadyH.cons (o := { dst := none, op := Op.store 3 (Operand.tmp 135) (Operand.tmp 133), type := 0, pos := "frag.go:168", after := #[{ on := 15, ground := Ground.data }, { on := 12, ground := Ground.data }, { on := 14, ground := Ground.chain }, { on := 0, ground := Ground.phase }, { on := 1, ground := Ground.phase }, { on := 2, ground := Ground.phase }, { on := 3, ground := Ground.phase }, { on := 4, ground := Ground.phase }, { on := 5, ground := Ground.phase }, { on := 6, ground := Ground.phase }, { on := 7, ground := Ground.phase }, { on := 8, ground := Ground.phase }, { on := 9, ground := Ground.phase }, { on := 10, ground := Ground.phase }, { on := 11, ground := Ground.phase }, { on := 12, ground := Ground.phase }, { on := 13, ground := Ground.phase }, { on := 14, ground := Ground.phase }], guard := none }) rfl (fun K hK => ?_) AllReadyH.nil
          go_simp; refine hK.out _ _ (HSS.out _ _ _ hHeld) (fun hHeld => ?_)
          clear hK K
          try simp only [Act.put, List.setIfInBounds_toArray, List.set_cons_zero, List.set_cons_succ]
          refine wpAnyH_done (by kernel_rfl) ?_ _
          go_wp2_with fail
          go_meet
          rw [HMV.out]
          exact ⟨mbx_set HXD.out _ _, Below.setCell (p := ⟨wm.heap.size, 4, none⟩) (Below.setCell (p := ⟨wm.heap.size, 3, none⟩) HBD.out (Nat.le_refl _) _) (Nat.le_refl _) _⟩
          --A>
        case rest =>
         rename World => wz
         obtain ⟨hxz, hbz⟩ := hcut
         have hjz := H6.out.ji.below hbz
         have hoz := hjz.jb.head
         obtain ⟨mp6, mc6, hmvE, -⟩ := own_shape hjz.jb.is.marks
         rw [hmvE] at hoz
         have o1 := cell_of_row _ _ 1 _ _ _ hoz
         simp only [List.getElem?_toArray, List.getElem?_cons_zero, List.getElem?_cons_succ] at o1
         have hml6 : X6.ms.length ≤ 2000000 := by have := H6.out.sm.ms; omega
         have HMO : Hid (wz.ownsRow W.heap.size 81 9 (.slice mp6 X6.ms.length mc6) X6.ms.length (X6.ms.flatMap Mk.cells)) := by have := hjz.jb.is.marks; rw [hmvE] at this; exact this
         obtain ⟨x', hx'⟩ : ∃ x', x' = moveM PL FL x := ⟨_, rfl⟩
         rw [← hx'] at hxz
         have HFIN : Hid (∀ (o : Obj) (w5 : World) (v5 : Value), w5.ownsRow W.heap.size 81 9 v5 (X6.ms.length + 1) (X6.ms.flatMap Mk.cells ++ x'.cells) → (wz.alloc o).grownBy w5 (Value.slice mp6 X6.ms.length mc6).ownBlock →
           (∃ X5, MJI W X1 PL FL u.marks.l n2 ub u (m + 1) (.slice pp PL.length pc9) (.slice fp FL.length fc9) X5 (w5.setCell ⟨W.heap.size + 1, 1, none⟩ v5)) ∧ w5.heap[W.heap.size + 1]? = some (.cells #[X6.pv, .slice mp6 X6.ms.length mc6, X6.gv] 32 (0, 0))) := fun o w5 v5 ho hg => by
          have := H6.out.fin HUB2.out hbz HTM.out hx' o w5 v5 ho (by rw [hmvE]; exact hg)
          rw [hmvE] at this
          exact this
         obtain ⟨y0, y1, y2, y3, y4, y5, y6, y7, y8⟩ := boxm_cells hxz
         have hobl : W.heap.size + 1 < wz.heap.size := hjz.jb.lt
         have hbxl : wm.heap.size < wz.heap.size := (Array.getElem?_eq_some_iff.1 hxz).1
         have hbwz : W.heap.size ≤ wz.heap.size := hjz.jb.hz
         have HHX := hid hx'
         clear hxz hbz hjz hoz hmvE hx' HX9
         go_wp2_with ((with_reducible show wpList _ _ _ (⟨some 142, _, _, _, _, _⟩ :: _) _ _); go_loud (refine wpList_app EMark rfl _ _ rfl W.heap.size (.slice mp6 X6.ms.length mc6) X6.ms.length (X6.ms.flatMap Mk.cells) rfl (HMO.out.alloc _) _ 1 1 x'.cells rfl rfl (by intro h; cases h) (row_blkAt (heap_alloc_new _ _)) (mk_ones _) (by unfold maxLen; omega) (by omega) (by simp; omega) ?_); go_loud (intro v5 w5 ho5 hg5 hs5; obtain ⟨p5, c5, rfl, -⟩ := own_shape ho5; obtain ⟨f1, f2⟩ := HFIN.out _ w5 _ ho5 hg5; have o8 := cell_of_row _ _ 1 _ _ _ f2; have o9 := frozen_of_row _ _ 1 _ _ f2; simp only [List.getElem?_toArray, List.getElem?_cons_zero, List.getElem?_cons_succ] at o8; have HF := hid f1; clear f1 f2 ho5 hg5 hs5))
         obtain ⟨X5, h5⟩ := HF.out
         exact ⟨⟨m + 1, by omega, by go_num, X5, h5⟩, by simp [intOf]; omega⟩
      ·have hme : m = NMK := by omega
       subst hme
       have v2 := cell_of_row _ _ 2 _ _ _ h6.box
       simp only [UnR.cells, Sl.val, List.getElem?_toArray, List.getElem?_cons_zero, List.getElem?_cons_succ] at v2
       have hj6 := h6.ji
       obtain ⟨gp6, gc6, hgvE, -⟩ := own_shape hj6.jb.is.globals
       have hoz := hj6.jb.head
       rw [hgvE] at hoz
       have o2 := cell_of_row _ _ 2 _ _ _ hoz
       simp only [List.getElem?_toArray, List.getElem?_cons_zero, List.getElem?_cons_succ] at o2
       have HGO : Hid (wm.ownsRow W.heap.size 90 3 (.slice gp6 X6.gs.length gc6) X6.gs.length (X6.gs.flatMap Td.cells)) := by have := hj6.jb.is.globals; rw [hgvE] at this; exact this
       have hgl6 : X6.gs.length + u.globals.l.length ≤ 4000000 := by
        have h1 := h6.sm.gs; have h2 := HCU.out
        have h4 : u.cost = ptCost u.parts.l + u.marks.l.length + u.globals.l.length := rfl
        omega
       have HGR := hid (HUI.out.gr.below hj6.b)
       have HGN := hid HUI.out.gn
       have hbwm : W.heap.size ≤ wm.heap.size := hj6.jb.hz
       have HFIN : Hid (∀ (w5 : World) (v5 : Value), w5.ownsRow W.heap.size 90 3 v5 (X6.gs.length + u.globals.l.length) (X6.gs.flatMap Td.cells ++ u.globals.l.flatMap Td.cells) → wm.grownBy w5 (Value.slice gp6 X6.gs.length gc6).ownBlock →
         (JIs W { X6 with gv := v5, gs := X6.gs ++ u.globals.l } (w5.setCell ⟨W.heap.size + 1, 2, none⟩ v5)) ∧ w5.heap[W.heap.size + 1]? = some (.cells #[X6.pv, X6.mv, .slice gp6 X6.gs.length gc6] 32 (0, 0))) := fun w5 v5 ho hg => by
        rw [← hgvE] at hg
        obtain ⟨hj, ht⟩ := hj6.jb.addTolds u.globals.l ho hg
        refine ⟨hj6.step hj ht (by unfold isPJ; decide) rfl, ?_⟩
        have := hj6.jb.app hg (fun g e => own_tag hj6.jb.is.globals e) (by decide)
        rw [hgvE] at this
        exact this
       have HPF : Hid ((⟨X6.ps.map PtR.pl, X6.ms, X6.gs ++ u.globals.l, X6.fs⟩ : FP) = joinP ((l.take (k + 1)).map UnR.pl)) := by
        unfold Hid
        rw [HST.out, ← HP.out]
        have hq := HF1.out
        have e1 : (joinParts (X.pl, [], []) u.pl.ps).1 = X1.pl := by show (joinParts (X.pl, [], []) (u.parts.l.map PtR.pl)).1 = _; rw [← hq]
        have e2 : (joinParts (X.pl, [], []) u.pl.ps).2.1 = PL := by show (joinParts (X.pl, [], []) (u.parts.l.map PtR.pl)).2.1 = _; rw [← hq]
        have e3 : (joinParts (X.pl, [], []) u.pl.ps).2.2 = FL := by show (joinParts (X.pl, [], []) (u.parts.l.map PtR.pl)).2.2 = _; rw [← hq]
        obtain ⟨m1, m2, m3, -, -⟩ := joinParts_ms u.pl.ps (X.pl, [], [])
        rw [e1] at m1 m2 m3
        unfold FP.joinUnit
        rw [e1, e2, e3, h6.ps, h6.ms, h6.gs, h6.ji.jb.fs, List.take_of_length_le (by rw [HNMK.out]; exact Nat.le_refl _)]
        have m1 : X1.ms = X.ms := m1
        have m2 : X1.gs = X.gs := m2
        have m3 : X1.fs = X.fs := m3
        rw [m1, m2]
        show (⟨X1.ps.map PtR.pl, _, _, _⟩ : FP) = ⟨X1.ps.map PtR.pl, _, _, X1.fs⟩
        rw [m3, HJ.out.jb.fs]
        rfl
       have HSF : Hid (∀ v5, Sm { X6 with gv := v5, gs := X6.gs ++ u.globals.l } (unCost (l.take (k + 1)))) := fun v5 => by
        have q := h6.sm
        have h2 := HCO.out
        have h3 : unCost (l.take (k + 1)) = unCost (l.take k) + u.cost := h2
        have h4 : u.cost = ptCost u.parts.l + u.marks.l.length + u.globals.l.length := rfl
        have h5 := HN2.out; have h7 := HNMK.out
        exact ⟨by have := q.ps; show X6.ps.length ≤ _; omega, by have := q.ms; show X6.ms.length ≤ _; omega, by have := q.gs; show (X6.gs ++ _).length ≤ _; rw [List.length_append]; omega, by have := q.fs; show X6.fs.length ≤ _; omega, fun y hy => by have := q.pcs y hy; omega⟩
       clear h6 hj6 hgvE hoz
       go_wp2_with ((with_reducible show wpList _ _ _ (⟨some 149, _, _, _, _, _⟩ :: _) _ _); go_loud (refine wpList_app ETold rfl _ _ rfl W.heap.size (.slice gp6 X6.gs.length gc6) X6.gs.length (X6.gs.flatMap Td.cells) rfl HGO.out _ _ _ (u.globals.l.flatMap Td.cells) rfl (flat_len Td.cells 3 (fun _ => rfl) _ |>.trans (Nat.mul_comm _ _)) HGN.out HGR.out (fun v hv => by obtain ⟨t, -, h⟩ := List.mem_flatMap.1 hv; exact td_ones t v h) (by unfold maxLen; omega) (by omega) hbwm ?_); go_loud (intro v5 w5 ho5 hg5 hs5; obtain ⟨p5, c5, rfl, -⟩ := own_shape ho5; obtain ⟨f1, f2⟩ := HFIN.out w5 _ ho5 hg5; have o8 := cell_of_row _ _ 2 _ _ _ f2; have o9 := frozen_of_row _ _ 2 _ _ f2; simp only [List.getElem?_toArray, List.getElem?_cons_zero, List.getElem?_cons_succ] at o8; have HF := hid f1; clear f1 f2 ho5 hg5 hs5))
       exact ⟨⟨k + 1, by omega, by go_num, _, HF.out, HPF.out, HSF.out _⟩, by simp [intOf]; omega⟩
  ·have hke : k = N := by omega
   subst hke
   obtain ⟨p0, c0, hpv, -⟩ := own_shape hj.jb.is.parts
   obtain ⟨p1, c1, hmv, -⟩ := own_shape hj.jb.is.marks
   obtain ⟨p2, c2, hgv, -⟩ := own_shape hj.jb.is.globals
   have hoz := hj.jb.head
   rw [hpv, hmv, hgv] at hoz
   have o0 := cell_of_row _ _ 0 _ _ _ hoz
   have o1 := cell_of_row _ _ 1 _ _ _ hoz
   have o2 := cell_of_row _ _ 2 _ _ _ hoz
   simp only [List.getElem?_toArray, List.getElem?_cons_zero, List.getElem?_cons_succ] at o0 o1 o2
   have r0 := cell_of_row _ _ 0 _ _ _ hj.res
   have r1 := cell_of_row _ _ 1 _ _ _ hj.res
   have r2 := cell_of_row _ _ 2 _ _ _ hj.res
   have g0 := frozen_of_row _ _ 0 _ _ hj.res
   have g1 := frozen_of_row _ _ 1 _ _ hj.res
   have g2 := frozen_of_row _ _ 2 _ _ hj.res
   simp only [List.getElem?_toArray, List.getElem?_cons_zero, List.getElem?_cons_succ] at r0 r1 r2
   have HV := hid (And.intro hpv (And.intro hmv hgv))
   clear hj hp hs hpv hmv hgv hoz
   go_wp2_with fail
   refine bodyPost_ret (v := .agg #[.slice p0 X.ps.length c0, .slice p1 X.ms.length c1, .slice p2 X.gs.length c2]) (by simp [results, Try.results16, go_sem, r0, r1, r2]) rfl ?_
   have h := HJ.out
   obtain ⟨wf, hwf⟩ : ∃ wf, wf = ((wr.setCell ⟨W.heap.size, 0, none⟩ (.slice p0 X.ps.length c0)).setCell ⟨W.heap.size, 1, none⟩ (.slice p1 X.ms.length c1)).setCell ⟨W.heap.size, 2, none⟩ (.slice p2 X.gs.length c2) := ⟨_, rfl⟩
   rw [← hwf]
   have hg9 : wr.grownBy wf (some W.heap.size) := by
    rw [hwf]; exact ⟨rfl, rfl, rfl, by simp, fun k _ hk => (heap_setCell_other _ _ _ _ (fun e => hk (by rw [e]))).trans ((heap_setCell_other _ _ _ _ (fun e => hk (by rw [e]))).trans (heap_setCell_other _ _ _ _ (fun e => hk (by rw [e]))))⟩
   have hl : Lies W.heap.size (fun x => own3 x ∨ isOB x) wr wf := Lies.grown (x := 32 + 1) hg9 (fun g e => by cases e; exact ⟨tag_row h.res, Nat.le_refl _⟩) (by unfold own3 isOB; decide) h.jb.hz
   have hp := HP.out
   have hs := HS.out
   rw [List.take_of_length_le (by rw [HN.out]; exact Nat.le_refl _)] at hp hs
   exact ⟨⟨X, by rw [HV.out.1, HV.out.2.1, HV.out.2.2], h.jb.is.lies hl, hp, hs, h.jb.fv⟩, h.b.grown hg9 h.b.size (fun g e => by cases e; exact Nat.le_refl _)⟩
end Go.Proofs.Ythlingholhjcnaa
