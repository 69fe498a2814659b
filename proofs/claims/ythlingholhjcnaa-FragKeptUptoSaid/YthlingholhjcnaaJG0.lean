/-
  Units put together: the unit that grows, in its box; one step more.
  Units one behind the other, in plain words; a unit as it comes in.
  Units put together in groups are all put together: the plain law.
-/
import Derived.Test.YthlingholhjcnaaJO8
namespace Go.Proofs.Ythlingholhjcnaa
open Go.RowKit
variable {W W' w w' : World} {base ob : Nat} {X : FV}

/-- Pieces more in a part: behind the append, and the store of its slice. -/
theorem FIs.addPieces (h : FIs W base X) (hz : base ≤ W.heap.size) {i : Nat} {y : PtR} (hi : X.ps[i]? = some y) {g c : Nat} (hpv : X.pv = .slice (some ⟨g, 0, none⟩) X.ps.length c) {p' : Option Addr} {c' : Nat} (xs : List PcR)
    (ho : W'.ownsRow base 64 11 (.slice p' (y.pieces.l.length + xs.length) c') (y.pieces.l.length + xs.length) (y.pieces.l.flatMap PcR.cells ++ xs.flatMap PcR.cells)) (hg : W.grownBy W' y.pieces.val.ownBlock) (hs : Stayed W y.pieces.val (.slice p' (y.pieces.l.length + xs.length) c')) (hx : ∀ x ∈ xs, PcOk W base x) :
    FIs (W'.setCell ⟨g, i * 4 + 3, none⟩ (.slice p' (y.pieces.l.length + xs.length) c')) base { X with ps := X.ps.set i { y with pieces := ⟨p', c', y.pieces.l ++ xs⟩ } } := by
  have hil := (List.getElem?_eq_some_iff.1 hi).1
  have hig := (List.getElem?_eq_some_iff.1 hi).2
  have hyo := h.pcs i y hi
  have hl : Lies base (fun x => x ≠ 64 + 1) W W' := Lies.grown hg (fun g hgg => ⟨own_tag hyo hgg, own_ge hyo g hgg⟩) (fun hn => hn rfl) hz
  have hpo := hl.own h.parts (by decide)
  rw [hpv] at hpo
  have htg : tagAt W' g = some (50 + 1) := own_tag hpo rfl
  have hge : base ≤ g := own_ge hpo g rfl
  have hl2 : Lies base (fun x => x ≠ 50 + 1) W' (W'.setCell ⟨g, i * 4 + 3, none⟩ (.slice p' (y.pieces.l.length + xs.length) c')) := Lies.grown (grown_set _ _ _) (fun b hb => by cases hb; exact ⟨htg, hge⟩) (fun hn => hn rfl) (Nat.le_trans hz hl.size)
  have hlp : Lies base isOB W (W'.setCell ⟨g, i * 4 + 3, none⟩ (.slice p' (y.pieces.l.length + xs.length) c')) := (hl.mono (by rintro x (rfl | rfl) <;> decide)).trans (hl2.mono (by rintro x (rfl | rfl) <;> decide))
  have hset : ∀ j z, (X.ps.set i { y with pieces := ⟨p', c', y.pieces.l ++ xs⟩ })[j]? = some z → (j = i ∧ z = { y with pieces := ⟨p', c', y.pieces.l ++ xs⟩ }) ∨ (j ≠ i ∧ X.ps[j]? = some z) := fun j z hj => by
    by_cases e : i = j
    · subst e; rw [List.getElem?_set_self hil] at hj; cases hj; exact .inl ⟨rfl, rfl⟩
    · rw [List.getElem?_set_ne e] at hj; exact .inr ⟨fun e2 => e e2.symm, hj⟩
  have hnew : (⟨p', c', y.pieces.l ++ xs⟩ : Sl PcR).val = .slice p' (y.pieces.l.length + xs.length) c' := by show Value.slice _ (y.pieces.l ++ xs).length _ = _; rw [List.length_append]
  have hap : ∀ j z, j ≠ i → X.ps[j]? = some z → Apart (.slice p' (y.pieces.l.length + xs.length) c') z.pieces.val := fun j z hji hj =>
    Apart.stayed (h.apart i j y z (Ne.symm hji) hi hj) hs (own_lt (h.pcs j z hj))
  refine ⟨?_, fun j z hj => ?_, fun j k a b hjk hj hk => ?_, fun z hz2 q hq => ?_, hl2.own (hl.own h.marks (by decide)) (by decide), hl2.own (hl.own h.globals (by decide)) (by decide), hl2.own (hl.own h.faults (by decide)) (by decide)⟩
  · have h4 := own_set hpo (i * 4 + 3) (.slice p' (y.pieces.l.length + xs.length) c')
    show (W'.setCell _ _).ownsRow base 50 4 X.pv (X.ps.set i _).length ((X.ps.set i _).flatMap PtR.cells)
    rw [List.length_set, hpv, ← flat_set PtR.cells 4 (fun _ => rfl) X.ps i hil 3 (.slice p' (y.pieces.l.length + xs.length) c') { y with pieces := ⟨p', c', y.pieces.l ++ xs⟩ } (by decide) (by rw [hig]; show [_, _, _, _] = [_, _, _, _]; rw [hnew])]
    exact h4
  · rcases hset j z hj with ⟨rfl, rfl⟩ | ⟨hji, hj2⟩
    · show (W'.setCell _ _).ownsRow base 64 11 (⟨p', c', y.pieces.l ++ xs⟩ : Sl PcR).val (y.pieces.l ++ xs).length ((y.pieces.l ++ xs).flatMap PcR.cells)
      rw [hnew, List.flatMap_append, List.length_append]
      exact hl2.own ho (by decide)
    · refine hl2.own ?_ (by decide)
      refine own_blk (h.pcs j z hj2) (fun b hb => hg.block b (own_lt (h.pcs j z hj2) b hb) (fun e => ?_))
      exact h.apart i j y z (Ne.symm hji) hi hj2 b e.symm hb
  · rcases hset j a hj with ⟨rfl, rfl⟩ | ⟨hji, hj2⟩
    · rcases hset k b hk with ⟨rfl, _⟩ | ⟨hki, hk2⟩
      · exact absurd rfl hjk
      · show Apart (⟨p', c', y.pieces.l ++ xs⟩ : Sl PcR).val _
        rw [hnew]; exact hap k b hki hk2
    · rcases hset k b hk with ⟨rfl, rfl⟩ | ⟨hki, hk2⟩
      · show Apart _ (⟨p', c', y.pieces.l ++ xs⟩ : Sl PcR).val
        rw [hnew]; exact (hap j a hji hj2).symm
      · exact h.apart j k a b hjk hj2 hk2
  · obtain ⟨j, hj⟩ := List.getElem?_of_mem hz2
    rcases hset j z hj with ⟨rfl, rfl⟩ | ⟨hji, hj2⟩
    · have hq : q ∈ y.pieces.l ++ xs := hq
      rcases List.mem_append.1 hq with h1 | h1
      · exact (h.pok y (List.mem_of_getElem? hi) q h1).lies hlp
      · exact (hx q h1).lies hlp
    · exact (h.pok z (List.mem_of_getElem? hj2) q hq).lies hlp
theorem FIs.addTolds (h : FIs W base X) (hz : base ≤ W.heap.size) {v' : Value} (ks : List Td) (ho : W'.ownsRow base 90 3 v' (X.gs.length + ks.length) (X.gs.flatMap Td.cells ++ ks.flatMap Td.cells)) (hg : W.grownBy W' X.gv.ownBlock) : FIs W' base { X with gv := v', gs := X.gs ++ ks } := by
  have hl : Lies base (fun x => x ≠ 90 + 1) W W' := Lies.grown hg (fun g hgg => ⟨own_tag h.globals hgg, own_ge h.globals g hgg⟩) (fun hn => hn rfl) hz
  refine ⟨hl.own h.parts (by decide), fun i y hy => hl.own (h.pcs i y hy) (by decide), h.apart, fun y hy x hx => (h.pok y hy x hx).lies (hl.mono ?_), hl.own h.marks (by decide), ?_, hl.own h.faults (by decide)⟩
  · rintro x (rfl | rfl) <;> decide
  · show W'.ownsRow base 90 3 v' (X.gs ++ ks).length ((X.gs ++ ks).flatMap Td.cells)
    rw [List.flatMap_append, List.length_append]; exact ho

/-- The kinds that no step writes. -/
def isPJ (x : Nat) : Prop := x ≠ 50 + 1 ∧ x ≠ 64 + 1 ∧ x ≠ 81 + 1 ∧ x ≠ 90 + 1 ∧ x ≠ 32 + 1
def isPJ0 (x : Nat) : Prop := isPJ x ∧ x ≠ 0
/-- What a step leaves: all below base, the blocks of some kinds, other units' boxes. -/
structure TrJ (P : Nat → Prop) (base ob : Nat) (w w' : World) : Prop where
  t : TrnP P base w w'
  u : ∀ b, b ≠ ob → tagAt w b = some (32 + 1) → w'.heap[b]? = w.heap[b]?
section
variable {P Q : Nat → Prop}
theorem TrJ.refl (base ob : Nat) (w : World) : TrJ P base ob w w := ⟨TrnP.refl _ _, fun _ _ _ => rfl⟩
theorem TrJ.trans {A B C : World} (h : TrJ P base ob A B) (k : TrJ P base ob B C) : TrJ P base ob A C := ⟨h.t.trans k.t, fun b hb ht => (k.u b hb (tag_blk ht (h.u b hb ht))).trans (h.u b hb ht)⟩
theorem TrJ.below (hb : Below w.heap.size w w') (hz : base ≤ w.heap.size) : TrJ P base ob w w' := ⟨TrnP.below hb hz, fun b _ ht => hb.block b (tag_lt ht)⟩
theorem TrJ.grown {row : Option Nat} {x : Nat} (hg : w.grownBy w' row) (hr : ∀ g, row = some g → tagAt w g = some x ∧ base ≤ g) (hx : ¬ P x) (hu : x ≠ 32 + 1) (hz : base ≤ w.heap.size) : TrJ P base ob w w' :=
  ⟨TrnP.grown hg hr hx hz, fun b _ ht => hg.block b (tag_lt ht) (fun e => tag_ne (hr b e.symm).1 ht hu rfl)⟩
theorem TrJ.setOb (ht : tagAt w ob = some (32 + 1)) (hge : base ≤ ob) (hP : ¬ P (32 + 1)) (hz : base ≤ w.heap.size) (k : Nat) (v : Value) : TrJ P base ob w (w.setCell ⟨ob, k, none⟩ v) :=
  ⟨TrnP.grown (grown_set _ _ _) (fun g e => by cases e; exact ⟨ht, hge⟩) hP hz, fun b hb _ => heap_setCell_other _ _ _ _ hb⟩
theorem TrJ.mono (h : TrJ P base ob w w') (hq : ∀ x, Q x → P x) : TrJ Q base ob w w' := ⟨h.t.mono hq, h.u⟩
theorem TrJ.size (h : TrJ P base ob w w') : w.heap.size ≤ w'.heap.size := h.t.size
theorem TrJ.box {b : Nat} {o : Obj} (h : TrJ P base ob w w') (hb : b ≠ ob) (ho : w.heap[b]? = some o) (ht : tagO o = 32 + 1) : w'.heap[b]? = some o :=
  (h.u b hb (by unfold tagAt; rw [ho]; simp [ht])).trans ho
end
theorem TrJ.j0 (h : TrJ isPJ base ob w w') : TrJ isPJ0 base ob w w' := h.mono fun _ h => h.1
/-- The unit that grows. -/
structure JB (base ob : Nat) (X : FV) (w : World) : Prop where
  head : w.heap[ob]? = some (.cells #[X.pv, X.mv, X.gv] 32 (0, 0))
  is : FIs w base X
  ge : base ≤ ob
  fv : X.fv = .slice none 0 0
  fs : X.fs = []
theorem JB.lt (h : JB base ob X w) : ob < w.heap.size := (Array.getElem?_eq_some_iff.1 h.head).1
theorem JB.hz (h : JB base ob X w) : base ≤ w.heap.size := by have := h.lt; have := h.ge; omega
theorem JB.tag (h : JB base ob X w) : tagAt w ob = some (32 + 1) := tag_row h.head
def isJ (x : Nat) : Prop := x = 32 + 1 ∨ own3 x ∨ isOB x
theorem JB.lies (h : JB base ob X w) (hl : Lies base isJ w w') : JB base ob X w' :=
  ⟨(hl.tag ob _ h.tag (.inl rfl)).trans h.head, h.is.lies (hl.mono fun _ h => .inr h), h.ge, h.fv, h.fs⟩
theorem JB.below (h : JB base ob X w) (hb : Below w.heap.size w w') : JB base ob X w' := h.lies (Lies.below _ hb h.hz)
theorem JB.cells (h : JB base ob X w) : w.cell? ⟨ob, 0, none⟩ = some X.pv ∧ w.cell? ⟨ob, 1, none⟩ = some X.mv ∧ w.cell? ⟨ob, 2, none⟩ = some X.gv ∧ w.frozen? ⟨ob, 0, none⟩ = false ∧ w.frozen? ⟨ob, 1, none⟩ = false ∧ w.frozen? ⟨ob, 2, none⟩ = false :=
  ⟨cell_of_row _ _ 0 _ _ _ h.head, cell_of_row _ _ 1 _ _ _ h.head, cell_of_row _ _ 2 _ _ _ h.head, frozen_of_row _ _ 0 _ _ h.head, frozen_of_row _ _ 1 _ _ h.head, frozen_of_row _ _ 2 _ _ h.head⟩
/-- The box behind an append to a row of another kind. -/
theorem JB.app (h : JB base ob X w) {row : Option Nat} {x : Nat} (hg : w.grownBy w' row) (hr : ∀ g, row = some g → tagAt w g = some x) (hx : x ≠ 32 + 1) : w'.heap[ob]? = some (.cells #[X.pv, X.mv, X.gv] 32 (0, 0)) :=
  (hg.block ob h.lt (fun e => tag_ne (hr ob e.symm) h.tag hx rfl)).trans h.head
theorem JB.addPart (h : JB base ob X w) {v' : Value} (y : PtR) (hy : y.pieces = ⟨none, 0, []⟩) (ho : w'.ownsRow base 50 4 v' (X.ps.length + 1) (X.ps.flatMap PtR.cells ++ y.cells)) (hg : w.grownBy w' X.pv.ownBlock) :
    JB base ob { X with pv := v', ps := X.ps ++ [y] } (w'.setCell ⟨ob, 0, none⟩ v') ∧ TrJ isPJ base ob w (w'.setCell ⟨ob, 0, none⟩ v') := by
  have hr : ∀ g, X.pv.ownBlock = some g → tagAt w g = some (50 + 1) ∧ base ≤ g := fun g hgg => ⟨own_tag h.is.parts hgg, own_ge h.is.parts g hgg⟩
  have hh := h.app hg (fun g e => (hr g e).1) (by decide)
  have hF := h.is.addPart h.hz y hy ho hg
  have t1 : TrJ isPJ base ob w w' := TrJ.grown hg hr (fun hn => hn.1 rfl) (by decide) h.hz
  have hz2 := Nat.le_trans h.hz t1.size
  refine ⟨⟨heap_setCell_same _ _ 0 _ _ _ hh, hF.lies ?_, h.ge, h.fv, h.fs⟩, t1.trans (TrJ.setOb (tag_row hh) h.ge (fun hn => hn.2.2.2.2 rfl) hz2 0 v')⟩
  exact Lies.grown (x := 32 + 1) (grown_set _ _ _) (fun g e => by cases e; exact ⟨tag_row hh, h.ge⟩) (by unfold own3 isOB; decide) hz2
theorem JB.addMark (h : JB base ob X w) {v' : Value} (k : Mk) (ho : w'.ownsRow base 81 9 v' (X.ms.length + 1) (X.ms.flatMap Mk.cells ++ k.cells)) (hg : w.grownBy w' X.mv.ownBlock) :
    JB base ob { X with mv := v', ms := X.ms ++ [k] } (w'.setCell ⟨ob, 1, none⟩ v') ∧ TrJ isPJ base ob w (w'.setCell ⟨ob, 1, none⟩ v') := by
  have hr : ∀ g, X.mv.ownBlock = some g → tagAt w g = some (81 + 1) ∧ base ≤ g := fun g hgg => ⟨own_tag h.is.marks hgg, own_ge h.is.marks g hgg⟩
  have hh := h.app hg (fun g e => (hr g e).1) (by decide)
  have hF := h.is.addMark h.hz k ho hg
  have t1 : TrJ isPJ base ob w w' := TrJ.grown hg hr (fun hn => hn.2.2.1 rfl) (by decide) h.hz
  have hz2 := Nat.le_trans h.hz t1.size
  refine ⟨⟨heap_setCell_same _ _ 1 _ _ _ hh, hF.lies ?_, h.ge, h.fv, h.fs⟩, t1.trans (TrJ.setOb (tag_row hh) h.ge (fun hn => hn.2.2.2.2 rfl) hz2 1 v')⟩
  exact Lies.grown (x := 32 + 1) (grown_set _ _ _) (fun g e => by cases e; exact ⟨tag_row hh, h.ge⟩) (by unfold own3 isOB; decide) hz2
theorem JB.addTolds (h : JB base ob X w) {v' : Value} (ks : List Td) (ho : w'.ownsRow base 90 3 v' (X.gs.length + ks.length) (X.gs.flatMap Td.cells ++ ks.flatMap Td.cells)) (hg : w.grownBy w' X.gv.ownBlock) :
    JB base ob { X with gv := v', gs := X.gs ++ ks } (w'.setCell ⟨ob, 2, none⟩ v') ∧ TrJ isPJ base ob w (w'.setCell ⟨ob, 2, none⟩ v') := by
  have hr : ∀ g, X.gv.ownBlock = some g → tagAt w g = some (90 + 1) ∧ base ≤ g := fun g hgg => ⟨own_tag h.is.globals hgg, own_ge h.is.globals g hgg⟩
  have hh := h.app hg (fun g e => (hr g e).1) (by decide)
  have hF := h.is.addTolds h.hz ks ho hg
  have t1 : TrJ isPJ base ob w w' := TrJ.grown hg hr (fun hn => hn.2.2.2.1 rfl) (by decide) h.hz
  have hz2 := Nat.le_trans h.hz t1.size
  refine ⟨⟨heap_setCell_same _ _ 2 _ _ _ hh, hF.lies ?_, h.ge, h.fv, h.fs⟩, t1.trans (TrJ.setOb (tag_row hh) h.ge (fun hn => hn.2.2.2.2 rfl) hz2 2 v')⟩
  exact Lies.grown (x := 32 + 1) (grown_set _ _ _) (fun g e => by cases e; exact ⟨tag_row hh, h.ge⟩) (by unfold own3 isOB; decide) hz2
/-- A part's slice as it lies, its cell to be stored into. -/
theorem JB.part (h : JB base ob X w) {i : Nat} {y : PtR} (hi : X.ps[i]? = some y) : ∃ g c, X.pv = .slice (some ⟨g, 0, none⟩) X.ps.length c ∧ w.cell? ⟨g, i * 4 + 3, none⟩ = some y.pieces.val ∧ w.frozen? ⟨g, i * 4 + 3, none⟩ = false ∧ g < w.heap.size ∧ tagAt w g = some (50 + 1) ∧ base ≤ g ∧ w.cell? ⟨g, i * 4, none⟩ = some (.string y.name) := by
  have hil := (List.getElem?_eq_some_iff.1 hi).1
  have hig := (List.getElem?_eq_some_iff.1 hi).2
  obtain ⟨g, c, hpv, hge, hlt, -⟩ := own_block h.is.parts (by omega)
  have hpar := h.is.parts
  rw [hpv] at hpar
  obtain ⟨pr, cr, er, hrow⟩ := own_shape hpar
  cases er
  have d := ptr_cells hrow i hil
  rw [hig, Nat.zero_add] at d
  have hlt5 : i * 4 + 3 < (X.ps.flatMap PtR.cells).length := by rw [flat_len PtR.cells 4 (fun _ => rfl)]; omega
  exact ⟨g, c, hpv, d.2.2.2, (own_cell hpar (i * 4 + 3) hlt5).2, hlt, own_tag hpar rfl, hge, d.1⟩
theorem JB.addPieces (h : JB base ob X w) {i : Nat} {y : PtR} (hi : X.ps[i]? = some y) {g c : Nat} (hpv : X.pv = .slice (some ⟨g, 0, none⟩) X.ps.length c) {p' : Option Addr} {c' : Nat} (xs : List PcR)
    (ho : w'.ownsRow base 64 11 (.slice p' (y.pieces.l.length + xs.length) c') (y.pieces.l.length + xs.length) (y.pieces.l.flatMap PcR.cells ++ xs.flatMap PcR.cells)) (hg : w.grownBy w' y.pieces.val.ownBlock) (hs : Stayed w y.pieces.val (.slice p' (y.pieces.l.length + xs.length) c')) (hx : ∀ x ∈ xs, PcOk w base x) :
    JB base ob { X with ps := X.ps.set i { y with pieces := ⟨p', c', y.pieces.l ++ xs⟩ } } (w'.setCell ⟨g, i * 4 + 3, none⟩ (.slice p' (y.pieces.l.length + xs.length) c')) ∧ TrJ isPJ base ob w (w'.setCell ⟨g, i * 4 + 3, none⟩ (.slice p' (y.pieces.l.length + xs.length) c')) := by
  have hyo := h.is.pcs i y hi
  have hr : ∀ g, y.pieces.val.ownBlock = some g → tagAt w g = some (64 + 1) ∧ base ≤ g := fun g hgg => ⟨own_tag hyo hgg, own_ge hyo g hgg⟩
  have hh := h.app hg (fun g e => (hr g e).1) (by decide)
  have hF := h.is.addPieces h.hz hi hpv xs ho hg hs hx
  have t1 : TrJ isPJ base ob w w' := TrJ.grown hg hr (fun hn => hn.2.1 rfl) (by decide) h.hz
  have htg0 : tagAt w g = some (50 + 1) := own_tag h.is.parts (g := g) (by rw [hpv]; rfl)
  have hge : base ≤ g := own_ge h.is.parts g (by rw [hpv]; rfl)
  have htg : tagAt w' g = some (50 + 1) := tag_blk htg0 (hg.block g (tag_lt htg0) (fun e => tag_ne (hr g e.symm).1 htg0 (by decide) rfl))
  have hz2 := Nat.le_trans h.hz t1.size
  refine ⟨⟨(heap_setCell_other _ _ _ _ (fun e => tag_ne (tag_row hh) htg (by decide) e)).trans hh, hF, h.ge, h.fv, h.fs⟩, t1.trans (TrJ.grown (grown_set _ _ _) (fun b e => by cases e; exact ⟨htg, hge⟩) (fun hn => hn.1 rfl) (by decide) hz2)⟩
theorem map_setPcs {i : Nat} {y : PtR} (hi : X.ps[i]? = some y) (p' : Option Addr) (c' : Nat) (xs : List PcR) (f : Pt → Pt) (hf : f y.pl = { y.pl with pieces := y.pl.pieces ++ xs.map PcR.pl }) :
    (X.ps.set i { y with pieces := ⟨p', c', y.pieces.l ++ xs⟩ }).map PtR.pl = (X.ps.map PtR.pl).modify i f := by
  rw [modify_set _ _ i y.pl (by rw [List.getElem?_map, hi]; rfl), List.map_set]
  congr 1
  rw [hf]
  simp [PtR.pl]
theorem names_setP {l : List PtR} {i : Nat} {y : PtR} (hi : l[i]? = some y) (s : Sl PcR) : (l.set i { y with pieces := s }).map PtR.name = l.map PtR.name := names_set hi s
end Go.Proofs.Ythlingholhjcnaa
namespace Go.Proofs.Ythlingholhjcnaa
open Go.RowKit
variable {W W' w w' : World} {base ob : Nat} {X : FV}

def appPcs (l : List Pc) (y : Pt) : Pt := { y with pieces := y.pieces ++ l }
def FP.putAll (S : FP) (i : Nat) (l : List Pc) : FP := { S with ps := S.ps.modify i (appPcs l) }
/-- A part behind the others: the unit, its number, how many pieces it had. -/
def FP.joinPart (S : FP) (p : Pt) : FP × Nat × Nat :=
  ((S.part p.file p.line p.name).1.putAll (S.part p.file p.line p.name).2 p.pieces, (S.part p.file p.line p.name).2, pcsAt (S.part p.file p.line p.name).1 (S.part p.file p.line p.name).2)
def jpStep (s : FP × List Nat × List Nat) (p : Pt) : FP × List Nat × List Nat := ((s.1.joinPart p).1, s.2.1 ++ [(s.1.joinPart p).2.1], s.2.2 ++ [(s.1.joinPart p).2.2])
def joinParts (s : FP × List Nat × List Nat) (l : List Pt) : FP × List Nat × List Nat := l.foldl jpStep s
def natAt (l : List Nat) (i : Int) : Nat := l.getD i.toNat 0
/-- A mark of a unit that is put behind another one. -/
def moveM (part frm : List Nat) (x : Mk) : Mk :=
  if 0 ≤ x.part ∧ x.part < part.length then { x with part := (natAt part x.part : Nat), piece := IntKind.i64.wrap (x.piece + (natAt frm x.part : Nat)) } else { x with part := -1, piece := 0 }
def FP.joinUnit (S : FP) (U : FP) : FP :=
  { (joinParts (S, [], []) U.ps).1 with ms := S.ms ++ U.ms.map (moveM (joinParts (S, [], []) U.ps).2.1 (joinParts (S, [], []) U.ps).2.2), gs := S.gs ++ U.gs }
def FP.nil : FP := ⟨[], [], [], []⟩
def joinP (l : List FP) : FP := l.foldl FP.joinUnit FP.nil
def UnR.pl (u : UnR) : FP := ⟨u.parts.l.map PtR.pl, u.marks.l, u.globals.l, []⟩
theorem putAll_ms (S : FP) (i : Nat) (l : List Pc) : (S.putAll i l).ms = S.ms := rfl
theorem part_ms (S : FP) (f l : Int) (n : ByteArray) : (S.part f l n).1.ms = S.ms ∧ (S.part f l n).1.gs = S.gs ∧ (S.part f l n).1.fs = S.fs := by
  unfold FP.part
  split <;> exact ⟨rfl, rfl, rfl⟩
theorem joinPart_ms (S : FP) (p : Pt) : (S.joinPart p).1.ms = S.ms ∧ (S.joinPart p).1.gs = S.gs ∧ (S.joinPart p).1.fs = S.fs := part_ms S _ _ _
theorem joinParts_ms (l : List Pt) : ∀ s : FP × List Nat × List Nat, (joinParts s l).1.ms = s.1.ms ∧ (joinParts s l).1.gs = s.1.gs ∧ (joinParts s l).1.fs = s.1.fs ∧ (joinParts s l).2.1.length = s.2.1.length + l.length ∧ (joinParts s l).2.2.length = s.2.2.length + l.length := by
  induction l with
  | nil => exact fun s => ⟨rfl, rfl, rfl, rfl, rfl⟩
  | cons p l ih =>
    intro s
    obtain ⟨h1, h2, h3, h4, h5⟩ := ih (jpStep s p)
    obtain ⟨k1, k2, k3⟩ := joinPart_ms s.1 p
    refine ⟨h1.trans k1, h2.trans k2, h3.trans k3, h4.trans ?_, h5.trans ?_⟩
    · show (s.2.1 ++ [_]).length + l.length = _; simp; omega
    · show (s.2.2 ++ [_]).length + l.length = _; simp; omega
/-- How much a unit holds. -/
def ptCost (l : List PtR) : Nat := (l.map (fun y => 1 + y.pieces.l.length)).sum
def UnR.cost (u : UnR) : Nat := ptCost u.parts.l + u.marks.l.length + u.globals.l.length
def unCost (l : List UnR) : Nat := (l.map UnR.cost).sum
theorem sum_take {α : Type} (f : α → Nat) (l : List α) (k : Nat) (hk : k < l.length) : ((l.take (k + 1)).map f).sum = ((l.take k).map f).sum + f l[k] := by
  rw [List.take_add_one, List.getElem?_eq_getElem hk, Option.toList_some, List.map_append, List.sum_append]
  simp
theorem sum_le {α : Type} (f : α → Nat) (l : List α) (k : Nat) : ((l.take k).map f).sum ≤ (l.map f).sum := by
  have h : (l.map f).sum = ((l.take k).map f).sum + ((l.drop k).map f).sum := by
    rw [← List.sum_append, ← List.map_append, List.take_append_drop]
  omega
/-- What a unit needs to be read. -/
structure UnIn (W : World) (u : UnR) : Prop where
  pr : Row W u.parts.p (u.parts.l.flatMap PtR.cells)
  mr : Row W u.marks.p (u.marks.l.flatMap Mk.cells)
  gr : Row W u.globals.p (u.globals.l.flatMap Td.cells)
  gn : u.globals.p = none → u.globals.c = 0
  pts : ∀ y ∈ u.parts.l, PtRd W y
theorem UnIn.below {u : UnR} (h : UnIn W u) (hb : Below W.heap.size W w) : UnIn w u := ⟨h.pr.below hb, h.mr.below hb, h.gr.below hb, h.gn, fun y hy => (h.pts y hy).below hb⟩
theorem Sm.mono2 {n m : Nat} (h : Sm X n) (hm : n ≤ m) : Sm X m := ⟨Nat.le_trans h.ps hm, Nat.le_trans h.ms hm, Nat.le_trans h.gs hm, Nat.le_trans h.fs hm, fun y hy => Nat.le_trans (h.pcs y hy) hm⟩
theorem UnR.ok.uin {u : UnR} (h : u.ok W) (hn : u.cost ≤ 1000000000000) : UnIn W u :=
  ⟨h.parts.1.row, h.marks.1.row, h.globals.1.row, h.globals.1.nil, fun y hy => ⟨(h.parts.2 y hy).pieces.1.row, by
    have h1 : 1 + y.pieces.l.length ≤ ptCost u.parts.l := by
      obtain ⟨i, hi, rfl⟩ := List.getElem_of_mem hy
      have e1 := sum_take (fun y : PtR => 1 + y.pieces.l.length) u.parts.l i hi
      have e2 := sum_le (fun y : PtR => 1 + y.pieces.l.length) u.parts.l (i + 1)
      unfold ptCost
      omega
    have h2 : u.cost = ptCost u.parts.l + u.marks.l.length + u.globals.l.length := rfl
    omega, fun x hx => ⟨((h.parts.2 y hy).pieces.2 x hx).l.opers.1, ((h.parts.2 y hy).pieces.2 x hx).b.1⟩⟩⟩
/-- A unit of ours as one that comes in. -/
theorem UnRd.uin {pp pm pg : Option Addr} {cp cm cg : Nat} (h : UnRd W X) (e1 : X.pv = .slice pp X.ps.length cp) (e2 : X.mv = .slice pm X.ms.length cm) (e3 : X.gv = .slice pg X.gs.length cg) (hg : pg = none → cg = 0) : UnIn W ⟨⟨pp, cp, X.ps⟩, ⟨pm, cm, X.ms⟩, ⟨pg, cg, X.gs⟩⟩ := by
  obtain ⟨p0, c0, q0, r0⟩ := h.pv
  obtain ⟨p1, c1, q1, r1⟩ := h.mv
  obtain ⟨p2, c2, q2, r2⟩ := h.gv
  rw [e1] at q0; cases q0
  rw [e2] at q1; cases q1
  rw [e3] at q2; cases q2
  exact ⟨r0, r1, r2, hg, h.pts⟩
end Go.Proofs.Ythlingholhjcnaa
namespace Go.Proofs.Ythlingholhjcnaa
open Go.RowKit

def look (l : List Pt) (x : ByteArray) : Option Pt := l.find? (fun p => decide (p.name = x))
def nms (l : List Pt) : List ByteArray := l.map Pt.name
def comb (o : Option Pt) (p : Pt) : Option Pt := match o with | some q => some { q with pieces := q.pieces ++ p.pieces } | none => some p
def cntO (o : Option Pt) : Nat := match o with | some q => q.pieces.length | none => 0
def ext1 (ns : List ByteArray) (x : ByteArray) : List ByteArray := match idxO ns x with | some _ => ns | none => ns ++ [x]
def exts (ns : List ByteArray) (l : List ByteArray) : List ByteArray := l.foldl ext1 ns
theorem look_cons (p : Pt) (l : List Pt) (x : ByteArray) : look (p :: l) x = if p.name = x then some p else look l x := by
  unfold look
  rw [List.find?_cons]
  by_cases h : p.name = x <;> simp [h]
theorem look_none {l : List Pt} {x : ByteArray} (h : x ∉ nms l) : look l x = none := by
  unfold look
  rw [List.find?_eq_none]
  intro p hp
  simp only [decide_eq_true_eq]
  intro e
  exact h (List.mem_map.2 ⟨p, hp, e⟩)
theorem look_app (l : List Pt) (p : Pt) (x : ByteArray) : look (l ++ [p]) x = (look l x).or (if p.name = x then some p else none) := by
  unfold look
  rw [List.find?_append]
  congr 1
  by_cases h : p.name = x <;> simp [h]
theorem idxO_none_iff {l : List ByteArray} {x : ByteArray} : idxO l x = none ↔ x ∉ l := by
  unfold idxO
  rw [List.findIdx?_eq_none_iff]
  constructor
  · intro h hx; have := h x hx; simp at this
  · intro h y hy; simp only [decide_eq_false_iff_not]; intro e; subst e; exact h hy
theorem idxO_some {l : List ByteArray} {x : ByteArray} {i : Nat} (h : idxO l x = some i) : l[i]? = some x := by
  unfold idxO at h
  obtain ⟨hi, h1, _⟩ := List.findIdx?_eq_some_iff_getElem.1 h
  rw [List.getElem?_eq_getElem hi]
  simpa using h1
theorem idxO_app {l t : List ByteArray} {x : ByteArray} (h : x ∈ l) : idxO (l ++ t) x = idxO l x := by
  unfold idxO
  rw [List.findIdx?_append]
  cases e : l.findIdx? (fun y => decide (y = x)) with
  | some i => rfl
  | none => exact absurd h (idxO_none_iff.1 e)
theorem nodup_inj {α : Type} {l : List α} (hn : l.Nodup) {i j : Nat} (hi : i < l.length) (hj : j < l.length) (h : l[i] = l[j]) : i = j := by
  have hp := List.pairwise_iff_getElem.1 hn
  rcases Nat.lt_trichotomy i j with g | g | g
  · exact absurd h (hp i j hi hj g)
  · exact g
  · exact absurd h.symm (hp j i hj hi g)
theorem ext1_pos {ns : List ByteArray} {x : ByteArray} (h : x ∈ ns) : ext1 ns x = ns := by
  unfold ext1
  cases e : idxO ns x with
  | some i => rfl
  | none => exact absurd h (idxO_none_iff.1 e)
theorem ext1_neg {ns : List ByteArray} {x : ByteArray} (h : x ∉ ns) : ext1 ns x = ns ++ [x] := by
  unfold ext1
  rw [idxO_none_iff.2 h]
theorem idxO_nodup {l : List ByteArray} (hn : l.Nodup) {i : Nat} (hi : i < l.length) : idxO l l[i] = some i := by
  cases e : idxO l l[i] with
  | none => exact absurd (List.getElem_mem hi) (idxO_none_iff.1 e)
  | some j =>
    have h1 := idxO_some e
    obtain ⟨hj, h2⟩ := List.getElem?_eq_some_iff.1 h1
    congr 1
    exact nodup_inj hn hj hi h2
theorem nms_modify (l : List Pt) (i : Nat) (a : List Pc) : nms (l.modify i (appPcs a)) = nms l := by
  unfold nms
  apply List.ext_getElem?
  intro j
  rw [List.getElem?_map, List.getElem?_map, List.getElem?_modify]
  by_cases e : i = j
  · simp only [if_pos e]; cases l[j]? <;> simp [appPcs]
  · simp [e]
theorem look_modify : ∀ (l : List Pt) (i : Nat) (a : List Pc) (x : ByteArray), (nms l).Nodup → (nms l)[i]? = some x → ∀ y, look (l.modify i (appPcs a)) y = if x = y then (look l y).map (appPcs a) else look l y
  | [], i, a, x, _, h, y => by simp [nms] at h
  | p :: l, 0, a, x, hn, h, y => by
    have hx : p.name = x := by simpa [nms] using h
    have hpn : p.name ∉ nms l := (List.nodup_cons.1 hn).1
    rw [List.modify_zero_cons, look_cons, look_cons]
    show (if (appPcs a p).name = y then some (appPcs a p) else look l y) = _
    have e : (appPcs a p).name = p.name := rfl
    rw [e, hx]
    by_cases h1 : x = y
    · simp [h1]
    · simp [h1]
  | p :: l, i + 1, a, x, hn, h, y => by
    have hx : (nms l)[i]? = some x := by simpa [nms] using h
    have hpn : p.name ∉ nms l := (List.nodup_cons.1 hn).1
    have hne : p.name ≠ x := fun e => hpn (by rw [e]; exact List.mem_of_getElem? hx)
    rw [List.modify_succ_cons, look_cons, look_cons, look_modify l i a x (List.nodup_cons.1 hn).2 hx y]
    by_cases h1 : p.name = y
    · have : x ≠ y := fun e => hne (h1.trans e.symm)
      simp [h1, this]
    · simp [h1]
/-- One part more. -/
theorem jp_all (S : FP) (hn : (nms S.ps).Nodup) (p : Pt) : nms (S.joinPart p).1.ps = ext1 (nms S.ps) p.name ∧ (∀ x, look (S.joinPart p).1.ps x = if p.name = x then comb (look S.ps x) p else look S.ps x) ∧
    idxO (nms (S.joinPart p).1.ps) p.name = some (S.joinPart p).2.1 ∧ (S.joinPart p).2.2 = cntO (look S.ps p.name) := by
  unfold FP.joinPart FP.part
  cases e : idxO (S.ps.map Pt.name) p.name with
  | some i =>
    have hx := idxO_some e
    have hmem : p.name ∈ nms S.ps := List.mem_of_getElem? hx
    have hl := look_modify S.ps i p.pieces p.name hn hx
    dsimp only [FP.putAll]
    rw [nms_modify]
    refine ⟨(ext1_pos hmem).symm, fun x => ?_, e, ?_⟩
    · rw [hl x]
      by_cases h1 : p.name = x
      · rw [if_pos h1, if_pos h1]
        cases h2 : look S.ps x with
        | none => exfalso; rw [← h1] at h2; unfold look at h2; rw [List.find?_eq_none] at h2; obtain ⟨q, hq, e2⟩ := List.mem_map.1 hmem; exact absurd e2 (by simpa using h2 q hq)
        | some q => rfl
      · rw [if_neg h1, if_neg h1]
    · unfold pcsAt
      obtain ⟨hi, -⟩ := List.getElem?_eq_some_iff.1 hx
      have hi2 : i < S.ps.length := by simpa using hi
      rw [List.getElem?_eq_getElem hi2]
      have hq : look S.ps p.name = some S.ps[i] := by
        have h3 : S.ps[i].name = p.name := by
          have := hx; rw [List.getElem?_map, List.getElem?_eq_getElem hi2] at this; simpa using this
        unfold look
        rw [List.find?_eq_some_iff_getElem]
        refine ⟨by simpa using h3, i, hi2, rfl, fun j hj => ?_⟩
        simp only [Bool.not_eq_true', decide_eq_false_iff_not]
        intro e3
        have := nodup_inj hn (i := j) (j := i) (by simp [nms]; omega) (by simp [nms]; omega) (by simp [nms]; rw [e3, h3])
        omega
      rw [hq]; rfl
  | none =>
    have hx : p.name ∉ nms S.ps := idxO_none_iff.1 e
    have hmod : (S.ps ++ [(⟨p.name, p.file, p.line, []⟩ : Pt)]).modify S.ps.length (appPcs p.pieces) = S.ps ++ [p] := by
      apply List.ext_getElem?
      intro j
      rw [List.getElem?_modify]
      by_cases h1 : j < S.ps.length
      · rw [List.getElem?_append_left h1, List.getElem?_append_left h1]; cases S.ps[j]? <;> simp [show ¬ S.ps.length = j by omega]
      · by_cases h2 : j = S.ps.length
        · subst h2; simp [appPcs]
        · rw [List.getElem?_eq_none (by simp; omega), List.getElem?_eq_none (by simp; omega)]; simp
    dsimp only [FP.putAll]
    rw [hmod]
    have hnm : nms (S.ps ++ [p]) = nms S.ps ++ [p.name] := by unfold nms; rw [List.map_append]; rfl
    rw [hnm]
    refine ⟨(ext1_neg hx).symm, fun x => ?_, ?_, ?_⟩
    · rw [look_app]
      by_cases h1 : p.name = x
      · subst h1; rw [look_none hx]; simp [comb]
      · simp [h1]
    · show idxO (S.ps.map Pt.name ++ [p.name]) p.name = _
      rw [idx_app p.name e]; simp
    · rw [look_none hx]; unfold pcsAt; simp [cntO]
theorem ext1_nodup {ns : List ByteArray} (h : ns.Nodup) (x : ByteArray) : (ext1 ns x).Nodup := by
  by_cases hx : x ∈ ns
  · rw [ext1_pos hx]; exact h
  · rw [ext1_neg hx, List.nodup_append]; exact ⟨h, by simp, fun a ha b hb => by simp at hb; subst hb; exact fun e => hx (e ▸ ha)⟩
theorem ext1_pre (ns : List ByteArray) (x : ByteArray) : ∃ t, ext1 ns x = ns ++ t := by
  by_cases hx : x ∈ ns
  · exact ⟨[], by rw [ext1_pos hx]; simp⟩
  · exact ⟨_, ext1_neg hx⟩
theorem exts_pre (l : List ByteArray) : ∀ ns, ∃ t, exts ns l = ns ++ t := by
  induction l with
  | nil => exact fun ns => ⟨[], by simp [exts]⟩
  | cons x l ih =>
    intro ns
    obtain ⟨t, h1⟩ := ext1_pre ns x
    obtain ⟨t2, h2⟩ := ih (ext1 ns x)
    exact ⟨t ++ t2, by show exts (ext1 ns x) l = _; rw [h2, h1, List.append_assoc]⟩
theorem ext1_mem (ns : List ByteArray) (x : ByteArray) : x ∈ ext1 ns x := by
  by_cases hx : x ∈ ns
  · rw [ext1_pos hx]; exact hx
  · rw [ext1_neg hx]; simp
theorem exts_snoc (ns l : List ByteArray) (x : ByteArray) : exts ns (l ++ [x]) = ext1 (exts ns l) x := by unfold exts; rw [List.foldl_append]; rfl
theorem exts_mem {ns l : List ByteArray} {x : ByteArray} (h : x ∈ ns) : x ∈ exts ns l := by
  obtain ⟨t, ht⟩ := exts_pre l ns
  rw [ht]; exact List.mem_append_left _ h
theorem exts_mem2 : ∀ (l : List ByteArray) {ns : List ByteArray} {x : ByteArray}, x ∈ l → x ∈ exts ns l
  | a :: l, ns, x, h => by
    show x ∈ exts (ext1 ns a) l
    rcases List.mem_cons.1 h with rfl | h
    · exact exts_mem (ext1_mem _ _)
    · exact exts_mem2 l h
theorem exts_ext1 (ns t : List ByteArray) (x : ByteArray) : exts ns (ext1 t x) = ext1 (exts ns t) x := by
  by_cases h : x ∈ t
  · rw [ext1_pos h, ext1_pos (exts_mem2 t h)]
  · rw [ext1_neg h, exts_snoc]
theorem exts_assoc (u : List ByteArray) : ∀ ns t, exts ns (exts t u) = exts (exts ns t) u := by
  induction u with
  | nil => exact fun _ _ => rfl
  | cons x u ih =>
    intro ns t
    show exts ns (exts (ext1 t x) u) = exts (ext1 (exts ns t) x) u
    rw [ih, exts_ext1]
theorem exts_nil : ∀ (l : List ByteArray) (ns : List ByteArray), (ns ++ l).Nodup → exts ns l = ns ++ l
  | [], ns, _ => by simp [exts]
  | x :: l, ns, h => by
    have hx : x ∉ ns := fun hm => by
      have := (List.nodup_append.1 h).2.2 x hm x (by simp)
      exact this rfl
    show exts (ext1 ns x) l = _
    have e : ext1 ns x = ns ++ [x] := ext1_neg hx
    rw [e, exts_nil l _ (by rw [List.append_assoc]; exact h), List.append_assoc]; rfl
def psum (l : List Pt) (x : ByteArray) : Nat := ((l.filter (fun p => decide (p.name = x))).map (fun p => p.pieces.length)).sum
theorem cnt_comb (o : Option Pt) (p : Pt) : cntO (comb o p) = cntO o + p.pieces.length := by cases o <;> simp [comb, cntO]
theorem cnt_foldl (l : List Pt) : ∀ o, cntO (l.foldl comb o) = cntO o + (l.map (fun p => p.pieces.length)).sum := by
  induction l with
  | nil => simp
  | cons p l ih => intro o; rw [List.foldl_cons, ih, cnt_comb]; simp; omega
/-- All parts of a unit. -/
theorem jps_all (l : List Pt) : ∀ (s : FP × List Nat × List Nat), (nms s.1.ps).Nodup →
    nms (joinParts s l).1.ps = exts (nms s.1.ps) (nms l) ∧ (∀ x, look (joinParts s l).1.ps x = (l.filter (fun p => decide (p.name = x))).foldl comb (look s.1.ps x)) ∧ (nms (joinParts s l).1.ps).Nodup ∧
    (joinParts s l).2.1 = s.2.1 ++ l.map (fun p => (idxO (nms (joinParts s l).1.ps) p.name).getD 0) ∧
    ((joinParts s l).2.2.length = s.2.2.length + l.length ∧ ∀ j (h : j < l.length), (joinParts s l).2.2[s.2.2.length + j]? = some (cntO (look s.1.ps l[j].name) + psum (l.take j) l[j].name)) ∧ s.2.2 <+: (joinParts s l).2.2 := by
  induction l with
  | nil => exact fun s hn => ⟨rfl, fun x => rfl, hn, by simp [joinParts], ⟨rfl, fun j h => absurd h (by simp)⟩, List.prefix_rfl⟩
  | cons p l ih =>
    intro s hn
    obtain ⟨j1, j2, j3, j4⟩ := jp_all s.1 hn p
    have hn2 : (nms (jpStep s p).1.ps).Nodup := by show (nms (s.1.joinPart p).1.ps).Nodup; rw [j1]; exact ext1_nodup hn _
    obtain ⟨i1, i2, i3, i4, ⟨i5, i6⟩, i7⟩ := ih (jpStep s p) hn2
    have e : joinParts s (p :: l) = joinParts (jpStep s p) l := rfl
    rw [e]
    have hs1 : (jpStep s p).1 = (s.1.joinPart p).1 := rfl
    have hs3 : (jpStep s p).2.2 = s.2.2 ++ [(s.1.joinPart p).2.2] := rfl
    refine ⟨by rw [i1, hs1, j1]; rfl, fun x => ?_, i3, ?_, ⟨?_, fun j h => ?_⟩, ?_⟩
    · rw [i2 x, hs1, j2 x]
      by_cases h : p.name = x
      · rw [List.filter_cons_of_pos (by simpa using h), List.foldl_cons, if_pos h]
      · rw [List.filter_cons_of_neg (by simpa using h), if_neg h]
    · rw [i4]
      show (s.2.1 ++ [(s.1.joinPart p).2.1]) ++ _ = _
      rw [List.append_assoc, List.map_cons]
      congr 1
      show (s.1.joinPart p).2.1 :: _ = _
      congr 1
      rw [i1, hs1]
      obtain ⟨t, ht⟩ := exts_pre (nms l) (nms (s.1.joinPart p).1.ps)
      rw [ht, idxO_app (by rw [j1]; exact ext1_mem _ _), j3]; rfl
    · rw [i5, hs3]; simp; omega
    · cases j with
      | zero =>
        have hl : s.2.2.length + 0 < (jpStep s p).2.2.length := by rw [hs3]; simp
        have := (List.prefix_iff_getElem?.1 i7) (s.2.2.length + 0) hl
        rw [this]
        congr 1
        simp only [hs3]
        simp [psum, j4]
      | succ j =>
        have := i6 j (by simpa using h)
        rw [hs3, List.length_append] at this
        simp only [List.length_cons, List.length_nil] at this
        rw [show s.2.2.length + (j + 1) = s.2.2.length + (0 + 1) + j by omega, this]
        congr 1
        rw [hs1, j2]
        simp only [List.getElem_cons_succ, List.take_succ_cons]
        have hjl : j < l.length := by simpa using h
        by_cases h1 : p.name = l[j].name
        · rw [if_pos h1, cnt_comb]
          unfold psum
          rw [List.filter_cons_of_pos (by simpa using h1), List.map_cons, List.sum_cons]
          omega
        · rw [if_neg h1]
          unfold psum
          rw [List.filter_cons_of_neg (by simpa using h1)]
    · exact (List.prefix_append s.2.2 [(s.1.joinPart p).2.2]).trans (hs3 ▸ i7)
end Go.Proofs.Ythlingholhjcnaa
