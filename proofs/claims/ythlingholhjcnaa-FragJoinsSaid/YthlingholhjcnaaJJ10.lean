/-
 Units put together: the unit that grows, in its box; one step more.
 Units one behind the other, in plain words; a unit as it comes in.
-/
import Derived.Test.YthlingholhjcnaaJJ9
namespace Go.Proofs.Ythlingholhjcnaa
open Go.RowKit
variable {W W' w w' : World} {base ob : Nat} {X : FV}
theorem FIs.addPieces (h : FIs W base X) (hz : base ≤ W.heap.size) {i : Nat} {y : PtR} (hi : X.ps[i]? = some y) {g c : Nat} (hpv : X.pv = .slice (some ⟨g, 0, none⟩) X.ps.length c) {p' : Option Addr} {c' : Nat} (xs : List PcR)
  (ho : W'.ownsRow base 64 11 (.slice p' (y.pieces.l.length + xs.length) c') (y.pieces.l.length + xs.length) (y.pieces.l.flatMap PcR.cells ++ xs.flatMap PcR.cells)) (hg : W.grownBy W' y.pieces.val.ownBlock) (hs : Stayed W y.pieces.val (.slice p' (y.pieces.l.length + xs.length) c')) (hx : ∀ x ∈ xs, PcOk W base x) :
  FIs (W'.setCell ⟨g, i * 4 + 3, none⟩ (.slice p' (y.pieces.l.length + xs.length) c')) base { X with ps := X.ps.set i { y with pieces := ⟨p', c', y.pieces.l ++ xs⟩ } } := by
 have hil := (List.getElem?_eq_some_iff.1 hi).1
 have hig := (List.getElem?_eq_some_iff.1 hi).2
 have hyo := h.pcs i y hi
 have hl : Lies base (fun x => x ≠ 64 + 1) W W' := Lies.grown hg (fun g hgg => ⟨own_tag hyo hgg, own_ge hyo g hgg⟩) (fun hn => hn rfl) hz
 have hpo := hl.own h.parts (by decide)
 rw [hpv] at hpo
 have htg : tagAt W' g = some (50 + 1) := own_tag hpo rfl
 have hge : base ≤ g := own_ge hpo g rfl
 have hl2 : Lies base (fun x => x ≠ 50 + 1) W' (W'.setCell ⟨g, i * 4 + 3, none⟩ (.slice p' (y.pieces.l.length + xs.length) c')) := Lies.grown (grown_set _ _ _) (fun b hb => by cases hb; exact ⟨htg, hge⟩) (fun hn => hn rfl) (Nat.le_trans hz hl.size)
 have hlp : Lies base isOB W (W'.setCell ⟨g, i * 4 + 3, none⟩ (.slice p' (y.pieces.l.length + xs.length) c')) := (hl.mono (by rintro x (rfl | rfl) <;> decide)).trans (hl2.mono (by rintro x (rfl | rfl) <;> decide))
 have hset : ∀ j z, (X.ps.set i { y with pieces := ⟨p', c', y.pieces.l ++ xs⟩ })[j]? = some z → (j = i ∧ z = { y with pieces := ⟨p', c', y.pieces.l ++ xs⟩ }) ∨ (j ≠ i ∧ X.ps[j]? = some z) := fun j z hj => by
  by_cases e : i = j
  ·subst e; rw [List.getElem?_set_self hil] at hj; cases hj; exact .inl ⟨rfl, rfl⟩
  ·rw [List.getElem?_set_ne e] at hj; exact .inr ⟨fun e2 => e e2.symm, hj⟩
 have hnew : (⟨p', c', y.pieces.l ++ xs⟩ : Sl PcR).val = .slice p' (y.pieces.l.length + xs.length) c' := by show Value.slice _ (y.pieces.l ++ xs).length _ = _; rw [List.length_append]
 have hap : ∀ j z, j ≠ i → X.ps[j]? = some z → Apart (.slice p' (y.pieces.l.length + xs.length) c') z.pieces.val := fun j z hji hj =>
  Apart.stayed (h.apart i j y z (Ne.symm hji) hi hj) hs (own_lt (h.pcs j z hj))
 refine ⟨?_, fun j z hj => ?_, fun j k a b hjk hj hk => ?_, fun z hz2 q hq => ?_, hl2.own (hl.own h.marks (by decide)) (by decide), hl2.own (hl.own h.globals (by decide)) (by decide), hl2.own (hl.own h.faults (by decide)) (by decide)⟩
 ·have h4 := own_set hpo (i * 4 + 3) (.slice p' (y.pieces.l.length + xs.length) c')
  show (W'.setCell _ _).ownsRow base 50 4 X.pv (X.ps.set i _).length ((X.ps.set i _).flatMap PtR.cells)
  rw [List.length_set, hpv, ← flat_set PtR.cells 4 (fun _ => rfl) X.ps i hil 3 (.slice p' (y.pieces.l.length + xs.length) c') { y with pieces := ⟨p', c', y.pieces.l ++ xs⟩ } (by decide) (by rw [hig]; show [_, _, _, _] = [_, _, _, _]; rw [hnew])]
  exact h4
 ·rcases hset j z hj with ⟨rfl, rfl⟩ | ⟨hji, hj2⟩
  ·show (W'.setCell _ _).ownsRow base 64 11 (⟨p', c', y.pieces.l ++ xs⟩ : Sl PcR).val (y.pieces.l ++ xs).length ((y.pieces.l ++ xs).flatMap PcR.cells)
   rw [hnew, List.flatMap_append, List.length_append]
   exact hl2.own ho (by decide)
  ·refine hl2.own ?_ (by decide)
   refine own_blk (h.pcs j z hj2) (fun b hb => hg.block b (own_lt (h.pcs j z hj2) b hb) (fun e => ?_))
   exact h.apart i j y z (Ne.symm hji) hi hj2 b e.symm hb
 ·rcases hset j a hj with ⟨rfl, rfl⟩ | ⟨hji, hj2⟩
  ·rcases hset k b hk with ⟨rfl, _⟩ | ⟨hki, hk2⟩
   ·exact absurd rfl hjk
   ·show Apart (⟨p', c', y.pieces.l ++ xs⟩ : Sl PcR).val _
    rw [hnew]; exact hap k b hki hk2
  ·rcases hset k b hk with ⟨rfl, rfl⟩ | ⟨hki, hk2⟩
   ·show Apart _ (⟨p', c', y.pieces.l ++ xs⟩ : Sl PcR).val
    rw [hnew]; exact (hap j a hji hj2).symm
   ·exact h.apart j k a b hjk hj2 hk2
 ·obtain ⟨j, hj⟩ := List.getElem?_of_mem hz2
  rcases hset j z hj with ⟨rfl, rfl⟩ | ⟨hji, hj2⟩
  ·have hq : q ∈ y.pieces.l ++ xs := hq
   rcases List.mem_append.1 hq with h1 | h1
   ·exact (h.pok y (List.mem_of_getElem? hi) q h1).lies hlp
   ·exact (hx q h1).lies hlp
  ·exact (h.pok z (List.mem_of_getElem? hj2) q hq).lies hlp
theorem FIs.addTolds (h : FIs W base X) (hz : base ≤ W.heap.size) {v' : Value} (ks : List Td) (ho : W'.ownsRow base 90 3 v' (X.gs.length + ks.length) (X.gs.flatMap Td.cells ++ ks.flatMap Td.cells)) (hg : W.grownBy W' X.gv.ownBlock) : FIs W' base { X with gv := v', gs := X.gs ++ ks } := by
 have hl : Lies base (fun x => x ≠ 90 + 1) W W' := Lies.grown hg (fun g hgg => ⟨own_tag h.globals hgg, own_ge h.globals g hgg⟩) (fun hn => hn rfl) hz
 refine ⟨hl.own h.parts (by decide), fun i y hy => hl.own (h.pcs i y hy) (by decide), h.apart, fun y hy x hx => (h.pok y hy x hx).lies (hl.mono ?_), hl.own h.marks (by decide), ?_, hl.own h.faults (by decide)⟩
 ·rintro x (rfl | rfl) <;> decide
 ·show W'.ownsRow base 90 3 v' (X.gs ++ ks).length ((X.gs ++ ks).flatMap Td.cells)
  rw [List.flatMap_append, List.length_append]; exact ho
def isPJ (x : Nat) : Prop := x ≠ 50 + 1 ∧ x ≠ 64 + 1 ∧ x ≠ 81 + 1 ∧ x ≠ 90 + 1 ∧ x ≠ 32 + 1
def isPJ0 (x : Nat) : Prop := isPJ x ∧ x ≠ 0
structure TrJ (P : Nat → Prop) (base ob : Nat) (w w' : World) : Prop where
 t : TrnP P base w w'
 u : ∀ b, b ≠ ob → tagAt w b = some (32 + 1) → w'.heap[b]? = w.heap[b]?
section
variable {P Q : Nat → Prop}
theorem TrJ.refl (base ob : Nat) (w : World) : TrJ P base ob w w := ⟨TrnP.refl _ _, fun _ _ _ => rfl⟩
theorem TrJ.trans {A B C : World} (h : TrJ P base ob A B) (k : TrJ P base ob B C) : TrJ P base ob A C := ⟨h.t.trans k.t, fun b hb ht => (k.u b hb (tag_blk ht (h.u b hb ht))).trans (h.u b hb ht)⟩
theorem TrJ.below (hb : Below w.heap.size w w') (hz : base ≤ w.heap.size) : TrJ P base ob w w' := ⟨TrnP.below hb hz, fun b _ ht => hb.block b (tag_lt ht)⟩
theorem TrJ.grown {row : Option Nat} {x : Nat} (hg : w.grownBy w' row) (hr : ∀ g, row = some g → tagAt w g = some x ∧ base ≤ g) (hx : ¬ P x) (hu : x ≠ 32 + 1) (hz : base ≤ w.heap.size) : TrJ P base ob w w' :=
 ⟨TrnP.grown hg hr hx hz, fun b _ ht => hg.block b (tag_lt ht) (fun e => tag_ne (hr b e.symm).1 ht hu rfl)⟩
theorem TrJ.setOb (ht : tagAt w ob = some (32 + 1)) (hge : base ≤ ob) (hP : ¬ P (32 + 1)) (hz : base ≤ w.heap.size) (k : Nat) (v : Value) : TrJ P base ob w (w.setCell ⟨ob, k, none⟩ v) :=
 ⟨TrnP.grown (grown_set _ _ _) (fun g e => by cases e; exact ⟨ht, hge⟩) hP hz, fun b hb _ => heap_setCell_other _ _ _ _ hb⟩
theorem TrJ.mono (h : TrJ P base ob w w') (hq : ∀ x, Q x → P x) : TrJ Q base ob w w' := ⟨h.t.mono hq, h.u⟩
theorem TrJ.size (h : TrJ P base ob w w') : w.heap.size ≤ w'.heap.size := h.t.size
theorem TrJ.box {b : Nat} {o : Obj} (h : TrJ P base ob w w') (hb : b ≠ ob) (ho : w.heap[b]? = some o) (ht : tagO o = 32 + 1) : w'.heap[b]? = some o :=
 (h.u b hb (by unfold tagAt; rw [ho]; simp [ht])).trans ho
end
theorem TrJ.j0 (h : TrJ isPJ base ob w w') : TrJ isPJ0 base ob w w' := h.mono fun _ h => h.1
structure JB (base ob : Nat) (X : FV) (w : World) : Prop where
 head : w.heap[ob]? = some (.cells #[X.pv, X.mv, X.gv] 32 (0, 0))
 is : FIs w base X
 ge : base ≤ ob
 fv : X.fv = .slice none 0 0
 fs : X.fs = []
theorem JB.lt (h : JB base ob X w) : ob < w.heap.size := (Array.getElem?_eq_some_iff.1 h.head).1
theorem JB.hz (h : JB base ob X w) : base ≤ w.heap.size := by have := h.lt; have := h.ge; omega
theorem JB.tag (h : JB base ob X w) : tagAt w ob = some (32 + 1) := tag_row h.head
def isJ (x : Nat) : Prop := x = 32 + 1 ∨ own3 x ∨ isOB x
theorem JB.lies (h : JB base ob X w) (hl : Lies base isJ w w') : JB base ob X w' :=
 ⟨(hl.tag ob _ h.tag (.inl rfl)).trans h.head, h.is.lies (hl.mono fun _ h => .inr h), h.ge, h.fv, h.fs⟩
theorem JB.below (h : JB base ob X w) (hb : Below w.heap.size w w') : JB base ob X w' := h.lies (Lies.below _ hb h.hz)
theorem JB.cells (h : JB base ob X w) : w.cell? ⟨ob, 0, none⟩ = some X.pv ∧ w.cell? ⟨ob, 1, none⟩ = some X.mv ∧ w.cell? ⟨ob, 2, none⟩ = some X.gv ∧ w.frozen? ⟨ob, 0, none⟩ = false ∧ w.frozen? ⟨ob, 1, none⟩ = false ∧ w.frozen? ⟨ob, 2, none⟩ = false :=
 ⟨cell_of_row _ _ 0 _ _ _ h.head, cell_of_row _ _ 1 _ _ _ h.head, cell_of_row _ _ 2 _ _ _ h.head, frozen_of_row _ _ 0 _ _ h.head, frozen_of_row _ _ 1 _ _ h.head, frozen_of_row _ _ 2 _ _ h.head⟩
theorem JB.app (h : JB base ob X w) {row : Option Nat} {x : Nat} (hg : w.grownBy w' row) (hr : ∀ g, row = some g → tagAt w g = some x) (hx : x ≠ 32 + 1) : w'.heap[ob]? = some (.cells #[X.pv, X.mv, X.gv] 32 (0, 0)) :=
 (hg.block ob h.lt (fun e => tag_ne (hr ob e.symm) h.tag hx rfl)).trans h.head
theorem JB.addPart (h : JB base ob X w) {v' : Value} (y : PtR) (hy : y.pieces = ⟨none, 0, []⟩) (ho : w'.ownsRow base 50 4 v' (X.ps.length + 1) (X.ps.flatMap PtR.cells ++ y.cells)) (hg : w.grownBy w' X.pv.ownBlock) :
  JB base ob { X with pv := v', ps := X.ps ++ [y] } (w'.setCell ⟨ob, 0, none⟩ v') ∧ TrJ isPJ base ob w (w'.setCell ⟨ob, 0, none⟩ v') := by
 have hr : ∀ g, X.pv.ownBlock = some g → tagAt w g = some (50 + 1) ∧ base ≤ g := fun g hgg => ⟨own_tag h.is.parts hgg, own_ge h.is.parts g hgg⟩
 have hh := h.app hg (fun g e => (hr g e).1) (by decide)
 have hF := h.is.addPart h.hz y hy ho hg
 have t1 : TrJ isPJ base ob w w' := TrJ.grown hg hr (fun hn => hn.1 rfl) (by decide) h.hz
 have hz2 := Nat.le_trans h.hz t1.size
 refine ⟨⟨heap_setCell_same _ _ 0 _ _ _ hh, hF.lies ?_, h.ge, h.fv, h.fs⟩, t1.trans (TrJ.setOb (tag_row hh) h.ge (fun hn => hn.2.2.2.2 rfl) hz2 0 v')⟩
 exact Lies.grown (x := 32 + 1) (grown_set _ _ _) (fun g e => by cases e; exact ⟨tag_row hh, h.ge⟩) (by unfold own3 isOB; decide) hz2
theorem JB.addMark (h : JB base ob X w) {v' : Value} (k : Mk) (ho : w'.ownsRow base 81 9 v' (X.ms.length + 1) (X.ms.flatMap Mk.cells ++ k.cells)) (hg : w.grownBy w' X.mv.ownBlock) :
  JB base ob { X with mv := v', ms := X.ms ++ [k] } (w'.setCell ⟨ob, 1, none⟩ v') ∧ TrJ isPJ base ob w (w'.setCell ⟨ob, 1, none⟩ v') := by
 have hr : ∀ g, X.mv.ownBlock = some g → tagAt w g = some (81 + 1) ∧ base ≤ g := fun g hgg => ⟨own_tag h.is.marks hgg, own_ge h.is.marks g hgg⟩
 have hh := h.app hg (fun g e => (hr g e).1) (by decide)
 have hF := h.is.addMark h.hz k ho hg
 have t1 : TrJ isPJ base ob w w' := TrJ.grown hg hr (fun hn => hn.2.2.1 rfl) (by decide) h.hz
 have hz2 := Nat.le_trans h.hz t1.size
 refine ⟨⟨heap_setCell_same _ _ 1 _ _ _ hh, hF.lies ?_, h.ge, h.fv, h.fs⟩, t1.trans (TrJ.setOb (tag_row hh) h.ge (fun hn => hn.2.2.2.2 rfl) hz2 1 v')⟩
 exact Lies.grown (x := 32 + 1) (grown_set _ _ _) (fun g e => by cases e; exact ⟨tag_row hh, h.ge⟩) (by unfold own3 isOB; decide) hz2
theorem JB.addTolds (h : JB base ob X w) {v' : Value} (ks : List Td) (ho : w'.ownsRow base 90 3 v' (X.gs.length + ks.length) (X.gs.flatMap Td.cells ++ ks.flatMap Td.cells)) (hg : w.grownBy w' X.gv.ownBlock) :
  JB base ob { X with gv := v', gs := X.gs ++ ks } (w'.setCell ⟨ob, 2, none⟩ v') ∧ TrJ isPJ base ob w (w'.setCell ⟨ob, 2, none⟩ v') := by
 have hr : ∀ g, X.gv.ownBlock = some g → tagAt w g = some (90 + 1) ∧ base ≤ g := fun g hgg => ⟨own_tag h.is.globals hgg, own_ge h.is.globals g hgg⟩
 have hh := h.app hg (fun g e => (hr g e).1) (by decide)
 have hF := h.is.addTolds h.hz ks ho hg
 have t1 : TrJ isPJ base ob w w' := TrJ.grown hg hr (fun hn => hn.2.2.2.1 rfl) (by decide) h.hz
 have hz2 := Nat.le_trans h.hz t1.size
 refine ⟨⟨heap_setCell_same _ _ 2 _ _ _ hh, hF.lies ?_, h.ge, h.fv, h.fs⟩, t1.trans (TrJ.setOb (tag_row hh) h.ge (fun hn => hn.2.2.2.2 rfl) hz2 2 v')⟩
 exact Lies.grown (x := 32 + 1) (grown_set _ _ _) (fun g e => by cases e; exact ⟨tag_row hh, h.ge⟩) (by unfold own3 isOB; decide) hz2
theorem JB.part (h : JB base ob X w) {i : Nat} {y : PtR} (hi : X.ps[i]? = some y) : ∃ g c, X.pv = .slice (some ⟨g, 0, none⟩) X.ps.length c ∧ w.cell? ⟨g, i * 4 + 3, none⟩ = some y.pieces.val ∧ w.frozen? ⟨g, i * 4 + 3, none⟩ = false ∧ g < w.heap.size ∧ tagAt w g = some (50 + 1) ∧ base ≤ g ∧ w.cell? ⟨g, i * 4, none⟩ = some (.string y.name) := by
 have hil := (List.getElem?_eq_some_iff.1 hi).1
 have hig := (List.getElem?_eq_some_iff.1 hi).2
 obtain ⟨g, c, hpv, hge, hlt, -⟩ := own_block h.is.parts (by omega)
 have hpar := h.is.parts
 rw [hpv] at hpar
 obtain ⟨pr, cr, er, hrow⟩ := own_shape hpar
 cases er
 have d := ptr_cells hrow i hil
 rw [hig, Nat.zero_add] at d
 have hlt5 : i * 4 + 3 < (X.ps.flatMap PtR.cells).length := by rw [flat_len PtR.cells 4 (fun _ => rfl)]; omega
 exact ⟨g, c, hpv, d.2.2.2, (own_cell hpar (i * 4 + 3) hlt5).2, hlt, own_tag hpar rfl, hge, d.1⟩
theorem JB.addPieces (h : JB base ob X w) {i : Nat} {y : PtR} (hi : X.ps[i]? = some y) {g c : Nat} (hpv : X.pv = .slice (some ⟨g, 0, none⟩) X.ps.length c) {p' : Option Addr} {c' : Nat} (xs : List PcR)
  (ho : w'.ownsRow base 64 11 (.slice p' (y.pieces.l.length + xs.length) c') (y.pieces.l.length + xs.length) (y.pieces.l.flatMap PcR.cells ++ xs.flatMap PcR.cells)) (hg : w.grownBy w' y.pieces.val.ownBlock) (hs : Stayed w y.pieces.val (.slice p' (y.pieces.l.length + xs.length) c')) (hx : ∀ x ∈ xs, PcOk w base x) :
  JB base ob { X with ps := X.ps.set i { y with pieces := ⟨p', c', y.pieces.l ++ xs⟩ } } (w'.setCell ⟨g, i * 4 + 3, none⟩ (.slice p' (y.pieces.l.length + xs.length) c')) ∧ TrJ isPJ base ob w (w'.setCell ⟨g, i * 4 + 3, none⟩ (.slice p' (y.pieces.l.length + xs.length) c')) := by
 have hyo := h.is.pcs i y hi
 have hr : ∀ g, y.pieces.val.ownBlock = some g → tagAt w g = some (64 + 1) ∧ base ≤ g := fun g hgg => ⟨own_tag hyo hgg, own_ge hyo g hgg⟩
 have hh := h.app hg (fun g e => (hr g e).1) (by decide)
 have hF := h.is.addPieces h.hz hi hpv xs ho hg hs hx
 have t1 : TrJ isPJ base ob w w' := TrJ.grown hg hr (fun hn => hn.2.1 rfl) (by decide) h.hz
 have htg0 : tagAt w g = some (50 + 1) := own_tag h.is.parts (g := g) (by rw [hpv]; rfl)
 have hge : base ≤ g := own_ge h.is.parts g (by rw [hpv]; rfl)
 have htg : tagAt w' g = some (50 + 1) := tag_blk htg0 (hg.block g (tag_lt htg0) (fun e => tag_ne (hr g e.symm).1 htg0 (by decide) rfl))
 have hz2 := Nat.le_trans h.hz t1.size
 refine ⟨⟨(heap_setCell_other _ _ _ _ (fun e => tag_ne (tag_row hh) htg (by decide) e)).trans hh, hF, h.ge, h.fv, h.fs⟩, t1.trans (TrJ.grown (grown_set _ _ _) (fun b e => by cases e; exact ⟨htg, hge⟩) (fun hn => hn.1 rfl) (by decide) hz2)⟩
theorem map_setPcs {i : Nat} {y : PtR} (hi : X.ps[i]? = some y) (p' : Option Addr) (c' : Nat) (xs : List PcR) (f : Pt → Pt) (hf : f y.pl = { y.pl with pieces := y.pl.pieces ++ xs.map PcR.pl }) :
  (X.ps.set i { y with pieces := ⟨p', c', y.pieces.l ++ xs⟩ }).map PtR.pl = (X.ps.map PtR.pl).modify i f := by
 rw [modify_set _ _ i y.pl (by rw [List.getElem?_map, hi]; rfl), List.map_set]
 congr 1
 rw [hf]
 simp [PtR.pl]
theorem names_setP {l : List PtR} {i : Nat} {y : PtR} (hi : l[i]? = some y) (s : Sl PcR) : (l.set i { y with pieces := s }).map PtR.name = l.map PtR.name := names_set hi s
end Go.Proofs.Ythlingholhjcnaa
namespace Go.Proofs.Ythlingholhjcnaa
open Go.RowKit
variable {W W' w w' : World} {base ob : Nat} {X : FV}
def appPcs (l : List Pc) (y : Pt) : Pt := { y with pieces := y.pieces ++ l }
def FP.putAll (S : FP) (i : Nat) (l : List Pc) : FP := { S with ps := S.ps.modify i (appPcs l) }
def FP.joinPart (S : FP) (p : Pt) : FP × Nat × Nat :=
 ((S.part p.file p.line p.name).1.putAll (S.part p.file p.line p.name).2 p.pieces, (S.part p.file p.line p.name).2, pcsAt (S.part p.file p.line p.name).1 (S.part p.file p.line p.name).2)
def jpStep (s : FP × List Nat × List Nat) (p : Pt) : FP × List Nat × List Nat := ((s.1.joinPart p).1, s.2.1 ++ [(s.1.joinPart p).2.1], s.2.2 ++ [(s.1.joinPart p).2.2])
def joinParts (s : FP × List Nat × List Nat) (l : List Pt) : FP × List Nat × List Nat := l.foldl jpStep s
def natAt (l : List Nat) (i : Int) : Nat := l.getD i.toNat 0
def moveM (part frm : List Nat) (x : Mk) : Mk :=
 if 0 ≤ x.part ∧ x.part < part.length then { x with part := (natAt part x.part : Nat), piece := IntKind.i64.wrap (x.piece + (natAt frm x.part : Nat)) } else { x with part := -1, piece := 0 }
def FP.joinUnit (S : FP) (U : FP) : FP :=
 { (joinParts (S, [], []) U.ps).1 with ms := S.ms ++ U.ms.map (moveM (joinParts (S, [], []) U.ps).2.1 (joinParts (S, [], []) U.ps).2.2), gs := S.gs ++ U.gs }
def FP.nil : FP := ⟨[], [], [], []⟩
def joinP (l : List FP) : FP := l.foldl FP.joinUnit FP.nil
def UnR.pl (u : UnR) : FP := ⟨u.parts.l.map PtR.pl, u.marks.l, u.globals.l, []⟩
theorem part_ms (S : FP) (f l : Int) (n : ByteArray) : (S.part f l n).1.ms = S.ms ∧ (S.part f l n).1.gs = S.gs ∧ (S.part f l n).1.fs = S.fs := by
 unfold FP.part
 split <;> exact ⟨rfl, rfl, rfl⟩
theorem joinPart_ms (S : FP) (p : Pt) : (S.joinPart p).1.ms = S.ms ∧ (S.joinPart p).1.gs = S.gs ∧ (S.joinPart p).1.fs = S.fs := part_ms S _ _ _
theorem joinParts_ms (l : List Pt) : ∀ s : FP × List Nat × List Nat, (joinParts s l).1.ms = s.1.ms ∧ (joinParts s l).1.gs = s.1.gs ∧ (joinParts s l).1.fs = s.1.fs ∧ (joinParts s l).2.1.length = s.2.1.length + l.length ∧ (joinParts s l).2.2.length = s.2.2.length + l.length := by
 induction l with
 | nil => exact fun s => ⟨rfl, rfl, rfl, rfl, rfl⟩
 | cons p l ih =>
  intro s
  obtain ⟨h1, h2, h3, h4, h5⟩ := ih (jpStep s p)
  obtain ⟨k1, k2, k3⟩ := joinPart_ms s.1 p
  refine ⟨h1.trans k1, h2.trans k2, h3.trans k3, h4.trans ?_, h5.trans ?_⟩
  ·show (s.2.1 ++ [_]).length + l.length = _; simp; omega
  ·show (s.2.2 ++ [_]).length + l.length = _; simp; omega
def ptCost (l : List PtR) : Nat := (l.map (fun y => 1 + y.pieces.l.length)).sum
def UnR.cost (u : UnR) : Nat := ptCost u.parts.l + u.marks.l.length + u.globals.l.length
def unCost (l : List UnR) : Nat := (l.map UnR.cost).sum
theorem sum_take {α : Type} (f : α → Nat) (l : List α) (k : Nat) (hk : k < l.length) : ((l.take (k + 1)).map f).sum = ((l.take k).map f).sum + f l[k] := by
 rw [List.take_add_one, List.getElem?_eq_getElem hk, Option.toList_some, List.map_append, List.sum_append]
 simp
theorem sum_le {α : Type} (f : α → Nat) (l : List α) (k : Nat) : ((l.take k).map f).sum ≤ (l.map f).sum := by
 have h : (l.map f).sum = ((l.take k).map f).sum + ((l.drop k).map f).sum := by
  rw [← List.sum_append, ← List.map_append, List.take_append_drop]
 omega
structure UnIn (W : World) (u : UnR) : Prop where
 pr : Row W u.parts.p (u.parts.l.flatMap PtR.cells)
 mr : Row W u.marks.p (u.marks.l.flatMap Mk.cells)
 gr : Row W u.globals.p (u.globals.l.flatMap Td.cells)
 gn : u.globals.p = none → u.globals.c = 0
 pts : ∀ y ∈ u.parts.l, PtRd W y
theorem UnIn.below {u : UnR} (h : UnIn W u) (hb : Below W.heap.size W w) : UnIn w u := ⟨h.pr.below hb, h.mr.below hb, h.gr.below hb, h.gn, fun y hy => (h.pts y hy).below hb⟩
theorem Sm.mono2 {n m : Nat} (h : Sm X n) (hm : n ≤ m) : Sm X m := ⟨Nat.le_trans h.ps hm, Nat.le_trans h.ms hm, Nat.le_trans h.gs hm, Nat.le_trans h.fs hm, fun y hy => Nat.le_trans (h.pcs y hy) hm⟩
theorem UnR.ok.uin {u : UnR} (h : u.ok W) (hn : u.cost ≤ 1000000000000) : UnIn W u :=
 ⟨h.parts.1.row, h.marks.1.row, h.globals.1.row, h.globals.1.nil, fun y hy => ⟨(h.parts.2 y hy).pieces.1.row, by
  have h1 : 1 + y.pieces.l.length ≤ ptCost u.parts.l := by
   obtain ⟨i, hi, rfl⟩ := List.getElem_of_mem hy
   have e1 := sum_take (fun y : PtR => 1 + y.pieces.l.length) u.parts.l i hi
   have e2 := sum_le (fun y : PtR => 1 + y.pieces.l.length) u.parts.l (i + 1)
   unfold ptCost
   omega
  have h2 : u.cost = ptCost u.parts.l + u.marks.l.length + u.globals.l.length := rfl
  omega, fun x hx => ⟨((h.parts.2 y hy).pieces.2 x hx).l.opers.1, ((h.parts.2 y hy).pieces.2 x hx).b.1⟩⟩⟩
theorem UnRd.uin {pp pm pg : Option Addr} {cp cm cg : Nat} (h : UnRd W X) (e1 : X.pv = .slice pp X.ps.length cp) (e2 : X.mv = .slice pm X.ms.length cm) (e3 : X.gv = .slice pg X.gs.length cg) (hg : pg = none → cg = 0) : UnIn W ⟨⟨pp, cp, X.ps⟩, ⟨pm, cm, X.ms⟩, ⟨pg, cg, X.gs⟩⟩ := by
 obtain ⟨p0, c0, q0, r0⟩ := h.pv
 obtain ⟨p1, c1, q1, r1⟩ := h.mv
 obtain ⟨p2, c2, q2, r2⟩ := h.gv
 rw [e1] at q0; cases q0
 rw [e2] at q1; cases q1
 rw [e3] at q2; cases q2
 exact ⟨r0, r1, r2, hg, h.pts⟩
end Go.Proofs.Ythlingholhjcnaa
