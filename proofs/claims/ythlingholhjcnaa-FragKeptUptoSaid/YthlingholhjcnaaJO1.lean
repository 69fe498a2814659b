/-
  The document's Grows.
  The code's maker as it lies; one store more.
  The code's maker: fails.
  A map's update and lookup as steps of a region held by hand.
  The code's maker: part.
  The code's maker: part, where there is none of the name.
  The makers' methods in plain words; a piece more in the code's maker.
-/
import Derived.Test.YthlingholhjcnaaJO0
import Derived.Deep.DeepCutAuto
import Derived.Deep.RegionHeld3
namespace Go.Proofs.Ythlingholhjcnaa
open Go.RowKit
variable {w w' W : World}
set_option maxRecDepth 20000 in
set_option maxHeartbeats 2000000 in
theorem rgrows_any (x : LnR) (h : SlOk W Oc.cells 120 x.opers) : Calls Try.prog 12 #[.agg x.cells.toArray] W (GrowsT x.name x.opers.l W) := by
  obtain ⟨nm, ⟨p, c, l⟩⟩ := x
  have HX1 : Hid (2 ≤ nm.size → Lib.hasPrefix nm.data.toList [98, 46] = ((nm.extract 0 2).toList == [98, 46])) := fun h => by
    have h1 := ext_pre nm ⟨#[98]⟩ (by show 1 < nm.size; omega)
    rw [show ((⟨#[98]⟩ : ByteArray) ++ ⟨#[46]⟩ : ByteArray).toList = [98, 46] from by rw [Lib.toList_data, point_data]; rfl] at h1
    exact h1.symm
  have HX2 : Hid (¬ 2 ≤ nm.size → Lib.hasPrefix nm.data.toList [98, 46] = false) := fun h => pre_short nm ⟨#[98]⟩ (by show ¬ 1 < nm.size; omega)
  unfold LnR.cells Sl.val
  dsimp only
  by_cases h0 : l = []
  · subst h0
    clear h
    go_enter Try.func12, Try.ntmps12
    go_wp2
    go_ret3
    exact ⟨rfl, (Below.refl _ _).alloc (Nat.le_refl _) _⟩
  · obtain ⟨ini, o, rfl⟩ : ∃ ini o, l = ini ++ [o] := ⟨l.dropLast, l.getLast h0, (List.dropLast_concat_getLast h0).symm⟩
    have hlast : (ini ++ [o]).getLast? = some o := by simp
    obtain ⟨b, q, rfl, hbl, -⟩ := h.row.at (by have := flat_len Oc.cells 15 (fun _ => rfl) (ini ++ [o]); rw [List.length_append] at this; simp at this ⊢; omega)
    have hll : (ini ++ [o]).length = ini.length + 1 := by simp
    have hcl := oc_cells h.row ini.length (by rw [hll]; omega)
    have hge : (ini ++ [o])[ini.length]'(by rw [hll]; omega) = o := by simp
    rw [hge] at hcl
    obtain ⟨c0, c1, c2, c3, c4, c5, c6, c7, c8, c9, c10, c11, c12, c13, c14⟩ := hcl
    have hcap := h.cap
    have hlen := h.len
    obtain ⟨r1, r2, r3, hr⟩ : ∃ r1 r2 r3, growsP nm (ini ++ [o]) = (r1, r2, r3) := ⟨_, _, _, rfl⟩
    have HG : Hid ((if growsO o then growsN nm else (0, 0, false)) = (r1, r2, r3)) := by unfold Hid; rw [← hr, growsP, hlast]
    unfold GrowsT
    rw [hr]
    clear hr
    dsimp only at hcap hlen
    rw [hll] at hlen hcap ⊢
    have hI : (((ini.length + 1 : Nat) : Int) == 0) = false := by simp; omega
    have hw1 : IntKind.i64.wrap (((ini.length + 1 : Nat) : Int) - 1) = (ini.length : Nat) := by rw [IntWalk.i64_in _ (by omega)]; omega
    clear h hge hlast h0 hll
    generalize ini.length = k at *
    go_enter Try.func12, Try.ntmps12
    go_wp2
    all_goals (go_ret3; refine ⟨?_, by first | exact ((Below.refl _ _).alloc (Nat.le_refl _) _).alloc (by simp) _ | exact (Below.refl _ _).alloc (Nat.le_refl _) _⟩)
    all_goals
      have hpf : (2 ≤ nm.size ∧ (2 : Int) ≤ nm.size ∧ Lib.hasPrefix nm.data.toList [98, 46] = ((nm.extract 0 2).toList == [98, 46])) ∨ (¬ 2 ≤ nm.size ∧ ¬ (2 : Int) ≤ nm.size ∧ Lib.hasPrefix nm.data.toList [98, 46] = false) := by
        rcases Classical.em (2 ≤ nm.size) with h2 | h2
        · exact .inl ⟨h2, by omega, HX1.out h2⟩
        · exact .inr ⟨h2, by omega, HX2.out h2⟩
      clear HX1 HX2
      first
        | (suffices hs : ((0 : Int), (0 : Int), false) = (r1, r2, r3) by (cases hs; rfl)); rw [← HG.out]; clear HG; (rcases hpf with ⟨h1, h2, h3⟩ | ⟨h1, h2, h3⟩) <;> simp_all [growsO, growsN, isS] <;> (exfalso; omega)
        | (suffices hs : ((-32768 : Int), (32764 : Int), true) = (r1, r2, r3) by (cases hs; rfl)); rw [← HG.out]; clear HG; (rcases hpf with ⟨h1, h2, h3⟩ | ⟨h1, h2, h3⟩) <;> simp_all [growsO, growsN, isS] <;> (exfalso; omega)
        | (suffices hs : ((-1048576 : Int), (1048572 : Int), true) = (r1, r2, r3) by (cases hs; rfl)); rw [← HG.out]; clear HG; (rcases hpf with ⟨h1, h2, h3⟩ | ⟨h1, h2, h3⟩) <;> simp_all [growsO, growsN, isS] <;> (exfalso; omega)
end Go.Proofs.Ythlingholhjcnaa
namespace Go.Proofs.Ythlingholhjcnaa
open Go.RowKit
variable {W W' w w' : World} {base m mb : Nat} {X : FV} {nm : List ByteArray} {file line : Int} {name : ByteArray}

/-- The kinds that no maker's method writes. -/
def isPT (x : Nat) : Prop := x ≠ 78 + 1 ∧ x ≠ 85 + 1 ∧ x ≠ 0 ∧ x ≠ 50 + 1 ∧ x ≠ 64 + 1 ∧ x ≠ 81 + 1 ∧ x ≠ 90 + 1 ∧ x ≠ 42 + 1
theorem ob_pt {x : Nat} (h : isOB x) : isPT x := by rcases h with rfl | rfl <;> (unfold isPT; decide)
/-- What the parts' methods leave: all below base, and the blocks of some kinds. -/
def TrnP (P : Nat → Prop) (base : Nat) (W w' : World) : Prop := Below base W w' ∧ Lies base P W w'
abbrev Trn (base : Nat) (W w' : World) : Prop := TrnP isPT base W w'
/-- The kinds that part leaves. -/
def isPM (x : Nat) : Prop := isPT x ∨ x = 64 + 1 ∨ x = 81 + 1
section
variable {P Q : Nat → Prop}
theorem TrnP.refl (base : Nat) (W : World) : TrnP P base W W := ⟨Below.refl _ _, Lies.refl _ _ _⟩
theorem TrnP.trans {A B C : World} (h : TrnP P base A B) (h2 : TrnP P base B C) : TrnP P base A C := ⟨h.1.trans h2.1, h.2.trans h2.2⟩
theorem TrnP.below (hb : Below W.heap.size W w') (hz : base ≤ W.heap.size) : TrnP P base W w' := ⟨hb.mono hz, Lies.below _ hb hz⟩
theorem TrnP.size (h : TrnP P base W w') : W.heap.size ≤ w'.heap.size := h.1.size
theorem TrnP.mono (h : TrnP P base W w') (hq : ∀ x, Q x → P x) : TrnP Q base W w' := ⟨h.1, h.2.mono hq⟩
theorem TrnP.grown {row : Option Nat} {x : Nat} (hg : W.grownBy w' row) (hr : ∀ g, row = some g → tagAt W g = some x ∧ base ≤ g) (hx : ¬ P x) (hz : base ≤ W.heap.size) : TrnP P base W w' :=
  ⟨(Below.refl base W).grown hg hz (fun k e => (hr k e).2), Lies.grown hg hr hx hz⟩
end
theorem TrnP.pt (h : TrnP isPM base W w') : Trn base W w' := h.mono fun _ h => .inl h
theorem PcOk.trn {x : PcR} (h : PcOk W base x) (ht : Trn base W w') : PcOk w' base x := h.lies (ht.2.mono fun _ h => ob_pt h)
/-- File, line and name in a maker's block. -/
structure FL (m k : Nat) (file line : Int) (name : ByteArray) (w' : World) : Prop where
  f : w'.cell? ⟨m, k, none⟩ = some (.int .i64 file)
  l : w'.cell? ⟨m, k + 1, none⟩ = some (.int .i64 line)
  n : w'.cell? ⟨m, k + 2, none⟩ = some (.string name)
theorem FL.blk {k : Nat} (h : FL m k file line name W) (hk : W'.heap[m]? = W.heap[m]?) : FL m k file line name W' :=
  ⟨(World.cell?_of_block (a := ⟨m, k, none⟩) hk).trans h.f, (World.cell?_of_block (a := ⟨m, k + 1, none⟩) hk).trans h.l, (World.cell?_of_block (a := ⟨m, k + 2, none⟩) hk).trans h.n⟩
theorem FL.set {k j : Nat} (h : FL m k file line name W) (hj : j < k) (v : Value) : FL m k file line name (W.setCell ⟨m, j, none⟩ v) :=
  ⟨(World.cell?_setCell_other _ _ _ _ (fun e => by injection e; omega)).trans h.f, (World.cell?_setCell_other _ _ _ _ (fun e => by injection e; omega)).trans h.l, (World.cell?_setCell_other _ _ _ _ (fun e => by injection e; omega)).trans h.n⟩
def natV (n : Nat) : Value := .int .i64 (n : Int)
/-- Where a name's part is. -/
def idxO (l : List ByteArray) (k : ByteArray) : Option Nat := l.findIdx? (fun x => decide (x = k))
def headC (X : FV) (mb : Nat) (file line : Int) (name : ByteArray) : Array Value := #[X.pv, X.mv, X.gv, .map (some mb), X.fv, .int .i64 file, .int .i64 line, .string name]
structure CIsN (W : World) (base m mb : Nat) (X : FV) (nm : List ByteArray) (file line : Int) (name : ByteArray) : Prop where
  head : W.heap[m]? = some (.cells (headC X mb file line name) 78 (0, 0))
  mp : ∃ am : List (ByteArray × Nat), MapIs Value.string natV W mb am ∧ ∀ k, alook am k = idxO nm k
  is : FIs W base X
  ge : base ≤ m ∧ base ≤ mb
/-- The code's maker. -/
abbrev CIs (W : World) (base m mb : Nat) (X : FV) (file line : Int) (name : ByteArray) : Prop := CIsN W base m mb X (X.ps.map PtR.name) file line name
theorem CIsN.lt (h : CIsN W base m mb X nm file line name) : m < W.heap.size := (Array.getElem?_eq_some_iff.1 h.head).1
theorem CIsN.hz (h : CIsN W base m mb X nm file line name) : base ≤ W.heap.size := by have := h.lt; have := h.ge.1; omega
theorem CIsN.tagM (h : CIsN W base m mb X nm file line name) : tagAt W m = some (78 + 1) := tag_row h.head
theorem CIsN.cells (h : CIsN W base m mb X nm file line name) : W.cell? ⟨m, 0, none⟩ = some X.pv ∧ W.cell? ⟨m, 1, none⟩ = some X.mv ∧ W.cell? ⟨m, 2, none⟩ = some X.gv ∧ W.cell? ⟨m, 3, none⟩ = some (.map (some mb)) ∧ W.cell? ⟨m, 4, none⟩ = some X.fv ∧ FL m 5 file line name W :=
  ⟨cell_of_row _ _ 0 _ _ _ h.head, cell_of_row _ _ 1 _ _ _ h.head, cell_of_row _ _ 2 _ _ _ h.head, cell_of_row _ _ 3 _ _ _ h.head, cell_of_row _ _ 4 _ _ _ h.head, cell_of_row _ _ 5 _ _ _ h.head, cell_of_row _ _ 6 _ _ _ h.head, cell_of_row _ _ 7 _ _ _ h.head⟩
theorem CIsN.below (h : CIsN W base m mb X nm file line name) (hb : Below W.heap.size W w') : CIsN w' base m mb X nm file line name := by
  obtain ⟨am, h1, h2⟩ := h.mp
  exact ⟨(hb.block _ h.lt).trans h.head, ⟨am, h1.below hb h1.lt, h2⟩, h.is.lies (Lies.below _ hb h.hz), h.ge⟩
/-- Behind a write into a row (of kind x) and the store of its slice into the maker. -/
theorem CIsN.store (h : CIsN W base m mb X nm file line name) {x : Nat} (hl : Lies base (fun y => y ≠ x) W w') (hx : x ≠ 78 + 1 ∧ x ≠ 0) {X' : FV} (hF : FIs w' base X') (k : Nat) (v : Value) (hk : headC X' mb file line name = (headC X mb file line name).setIfInBounds k v) :
    CIsN (w'.setCell ⟨m, k, none⟩ v) base m mb X' nm file line name := by
  obtain ⟨am, h1, h2⟩ := h.mp
  have hm : w'.heap[m]? = some (.cells (headC X mb file line name) 78 (0, 0)) := (hl.tag m _ h.tagM (Ne.symm hx.1)).trans h.head
  have hmb : mb ≠ m := tag_ne (map_tag h1) h.tagM (by decide)
  have hmt : tagAt w' m = some (78 + 1) := tag_row hm
  refine ⟨?_, ⟨am, ?_, h2⟩, hF.lies ?_, h.ge⟩
  · rw [hk]; exact heap_setCell_same _ _ _ _ _ _ hm
  · obtain ⟨es, c, e1, e2⟩ := h1
    exact ⟨es, c, (heap_setCell_other _ _ _ _ hmb).trans ((hl.tag mb 0 (by unfold tagAt; rw [e1]; rfl) (Ne.symm hx.2)).trans e1), e2⟩
  · exact (Lies.grown (x := 78 + 1) (P := fun y => y ≠ 78 + 1) (grown_set _ _ _) (fun g hg => by cases hg; exact ⟨hmt, h.ge.1⟩) (fun hn => hn rfl) (Nat.le_trans h.hz hl.size)).mono (by rintro y ((rfl | rfl | rfl | rfl | rfl) | (rfl | rfl)) <;> decide)
theorem TrnP.store {P : Nat → Prop} (hP : ¬ P (78 + 1)) (h : CIsN W base m mb X nm file line name) (ht : TrnP P base W w') (hm : tagAt w' m = some (78 + 1)) (k : Nat) (v : Value) : TrnP P base W (w'.setCell ⟨m, k, none⟩ v) :=
  ht.trans (TrnP.grown (x := 78 + 1) (grown_set _ _ _) (fun g hg => by cases hg; exact ⟨hm, h.ge.1⟩) hP (Nat.le_trans h.hz ht.size))
theorem FL.drew {k : Nat} (h : FL m k file line name W) : FL m k file line name W.drew := ⟨h.f, h.l, h.n⟩
theorem alloc_below (W : World) (o : Obj) : Below W.heap.size W (W.alloc o) := (Below.refl _ _).alloc (Nat.le_refl _) _
/-- Behind the append to faults, and the store. -/
theorem CIsN.finFault (h : CIsN W base m mb X nm file line name) {o : Obj} {w8 : World} {v' : Value} (k : Ft) (ho : w8.ownsRow base 42 3 v' (X.fs.length + 1) (X.fs.flatMap Ft.cells ++ k.cells)) (hg : (W.alloc o).drew.grownBy w8 X.fv.ownBlock) :
    CIsN (w8.setCell ⟨m, 4, none⟩ v') base m mb { X with fv := v', fs := X.fs ++ [k] } nm file line name ∧ Trn base W (w8.setCell ⟨m, 4, none⟩ v') := by
  have hA := h.below (alloc_below W o)
  have hg := grown_undrew hg
  have hr : ∀ g, X.fv.ownBlock = some g → tagAt (W.alloc o) g = some (42 + 1) ∧ base ≤ g := fun g hgg => ⟨own_tag hA.is.faults hgg, own_ge hA.is.faults g hgg⟩
  have hl : Lies base (fun y => y ≠ 42 + 1) (W.alloc o) w8 := Lies.grown hg hr (fun hn => hn rfl) hA.hz
  have ht : Trn base W w8 := (TrnP.below (alloc_below W o) h.hz).trans (TrnP.grown hg hr (by unfold isPT; decide) hA.hz)
  exact ⟨hA.store hl ⟨by decide, by decide⟩ (hA.is.addFault hA.hz k ho hg) 4 v' rfl, TrnP.store (by unfold isPT; decide) h ht (tag_blk hA.tagM (hl.tag m _ hA.tagM (by decide))) 4 v'⟩
/-- The maker's block behind the append. -/
theorem CIsN.appFault (h : CIsN W base m mb X nm file line name) {o : Obj} {w8 : World} (hg : (W.alloc o).drew.grownBy w8 X.fv.ownBlock) : w8.heap[m]? = some (.cells (headC X mb file line name) 78 (0, 0)) ∧ FL m 5 file line name w8 := by
  have hA := h.below (alloc_below W o)
  have hg := grown_undrew hg
  have e : w8.heap[m]? = (W.alloc o).heap[m]? := hg.block m hA.lt (fun e => tag_ne (own_tag hA.is.faults e.symm) hA.tagM (by decide) rfl)
  exact ⟨e.trans hA.head, hA.cells.2.2.2.2.2.blk e⟩
/-- Behind the append to marks, and the store. -/
theorem CIsN.finMark (h : CIsN W base m mb X nm file line name) {o : Obj} {w8 : World} {v' : Value} (k : Mk) (ho : w8.ownsRow base 81 9 v' (X.ms.length + 1) (X.ms.flatMap Mk.cells ++ k.cells)) (hg : (W.alloc o).drew.grownBy w8 X.mv.ownBlock) :
    CIsN (w8.setCell ⟨m, 1, none⟩ v') base m mb { X with mv := v', ms := X.ms ++ [k] } nm file line name ∧ Trn base W (w8.setCell ⟨m, 1, none⟩ v') := by
  have hA := h.below (alloc_below W o)
  have hg := grown_undrew hg
  have hr : ∀ g, X.mv.ownBlock = some g → tagAt (W.alloc o) g = some (81 + 1) ∧ base ≤ g := fun g hgg => ⟨own_tag hA.is.marks hgg, own_ge hA.is.marks g hgg⟩
  have hl : Lies base (fun y => y ≠ 81 + 1) (W.alloc o) w8 := Lies.grown hg hr (fun hn => hn rfl) hA.hz
  have ht : Trn base W w8 := (TrnP.below (alloc_below W o) h.hz).trans (TrnP.grown hg hr (by unfold isPT; decide) hA.hz)
  exact ⟨hA.store hl ⟨by decide, by decide⟩ (hA.is.addMark hA.hz k ho hg) 1 v' rfl, TrnP.store (by unfold isPT; decide) h ht (tag_blk hA.tagM (hl.tag m _ hA.tagM (by decide))) 1 v'⟩
/-- The maker's block behind the append. -/
theorem CIsN.appMark (h : CIsN W base m mb X nm file line name) {o : Obj} {w8 : World} (hg : (W.alloc o).drew.grownBy w8 X.mv.ownBlock) : w8.heap[m]? = some (.cells (headC X mb file line name) 78 (0, 0)) ∧ FL m 5 file line name w8 := by
  have hA := h.below (alloc_below W o)
  have hg := grown_undrew hg
  have e : w8.heap[m]? = (W.alloc o).heap[m]? := hg.block m hA.lt (fun e => tag_ne (own_tag hA.is.marks e.symm) hA.tagM (by decide) rfl)
  exact ⟨e.trans hA.head, hA.cells.2.2.2.2.2.blk e⟩
/-- Behind the append to globals, and the store. -/
theorem CIsN.finTold (h : CIsN W base m mb X nm file line name) {o : Obj} {w8 : World} {v' : Value} (k : Td) (ho : w8.ownsRow base 90 3 v' (X.gs.length + 1) (X.gs.flatMap Td.cells ++ k.cells)) (hg : (W.alloc o).drew.grownBy w8 X.gv.ownBlock) :
    CIsN (w8.setCell ⟨m, 2, none⟩ v') base m mb { X with gv := v', gs := X.gs ++ [k] } nm file line name ∧ Trn base W (w8.setCell ⟨m, 2, none⟩ v') := by
  have hA := h.below (alloc_below W o)
  have hg := grown_undrew hg
  have hr : ∀ g, X.gv.ownBlock = some g → tagAt (W.alloc o) g = some (90 + 1) ∧ base ≤ g := fun g hgg => ⟨own_tag hA.is.globals hgg, own_ge hA.is.globals g hgg⟩
  have hl : Lies base (fun y => y ≠ 90 + 1) (W.alloc o) w8 := Lies.grown hg hr (fun hn => hn rfl) hA.hz
  have ht : Trn base W w8 := (TrnP.below (alloc_below W o) h.hz).trans (TrnP.grown hg hr (by unfold isPT; decide) hA.hz)
  exact ⟨hA.store hl ⟨by decide, by decide⟩ (hA.is.addTold hA.hz k ho hg) 2 v' rfl, TrnP.store (by unfold isPT; decide) h ht (tag_blk hA.tagM (hl.tag m _ hA.tagM (by decide))) 2 v'⟩
/-- The maker's block behind the append. -/
theorem CIsN.appTold (h : CIsN W base m mb X nm file line name) {o : Obj} {w8 : World} (hg : (W.alloc o).drew.grownBy w8 X.gv.ownBlock) : w8.heap[m]? = some (.cells (headC X mb file line name) 78 (0, 0)) ∧ FL m 5 file line name w8 := by
  have hA := h.below (alloc_below W o)
  have hg := grown_undrew hg
  have e : w8.heap[m]? = (W.alloc o).heap[m]? := hg.block m hA.lt (fun e => tag_ne (own_tag hA.is.globals e.symm) hA.tagM (by decide) rfl)
  exact ⟨e.trans hA.head, hA.cells.2.2.2.2.2.blk e⟩
end Go.Proofs.Ythlingholhjcnaa
namespace Go.Proofs.Ythlingholhjcnaa
open Go.RowKit
variable {W W' w w' : World} {base m mb : Nat} {X : FV} {file line : Int} {name : ByteArray}

def FailsT (W : World) (base m mb : Nat) (X : FV) (file line : Int) (name : ByteArray) (er : Int) (e : Ending) (w' : World) : Prop :=
  e = .returned (.tuple #[]) ∧ (∃ v', CIs w' base m mb { X with fv := v', fs := X.fs ++ [⟨file, line, er⟩] } file line name) ∧ Trn base W w'
set_option maxRecDepth 20000 in
set_option maxHeartbeats 4000000 in
theorem fails_any (h : CIs W base m mb X file line name) (hn : X.fs.length ≤ 1000000000) (er : Int) :
    Calls Try.prog 36 #[.pointer (some ⟨m, 0, none⟩), .int .i64 er] W (FailsT W base m mb X file line name er) := by
  unfold FailsT
  obtain ⟨c0, c1, c2, c3, c4, hfl⟩ := h.cells
  have HC := hid h
  have hz := h.hz
  obtain ⟨pc, cc, hvc, -⟩ := own_shape h.is.faults
  rw [hvc] at c4
  have HP7 : Hid (W.ownsRow base 42 3 (.slice pc X.fs.length cc) X.fs.length (X.fs.flatMap Ft.cells)) := by have := h.is.faults; rw [hvc] at this; exact this
  have HVC : Hid (X.fv.ownBlock = (Value.slice pc X.fs.length cc).ownBlock) := by unfold Hid; rw [hvc]
  have HSL : Hid (∀ o : Obj, FL m 5 file line name (W.alloc o).drew) := fun o => (hfl.blk (Below.heap_alloc W o m h.lt)).drew
  have HH0 : Hid (FL m 5 file line name W.drew) := hfl.drew
  have c4L : ∀ o : Obj, (W.alloc o).cell? ⟨m, 4, none⟩ = some (.slice pc X.fs.length cc) := fun o => (World.cell?_of_block (a := ⟨m, 4, none⟩) (Below.heap_alloc W o m h.lt)).trans c4
  have a5 : ∀ w' : World, FL m 5 file line name w' → w'.cell? ⟨m, 5, none⟩ = some (.int .i64 file) := fun _ h => h.f
  have a6 : ∀ w' : World, FL m 5 file line name w' → w'.cell? ⟨m, 6, none⟩ = some (.int .i64 line) := fun _ h => h.l
  clear h hfl c0 c1 c2 c3 hvc
  generalize hfn : X.fs.length = fn at *
  have HFN := hid hfn
  clear hfn
  go_enter Try.func36, Try.ntmps36
  refine wp_region_held_drew (S := FL m 5 file line name) (by kernel_rfl) HH0.out (fun hHeld => ?_)
  refine wpAnyH_take (i := 0) (oi := { dst := some 4, op := Op.move (Operand.tmp 0), type := 75, pos := "frag.go:45", after := #[], guard := none }) (v := ?fav0) rfl (by kernel_rfl) (by kernel_rfl) (by kernel_rfl) (fun _ _ _ h => h) (Or.inl ⟨by rfl, ?fah0⟩) (by assumption) ?far0
  case fah0 => ((intro w hSw; (try dsimp only at hSw); go_simp); try with_reducible rfl)
  try simp only [Act.put, List.setIfInBounds_toArray, List.set_cons_zero, List.set_cons_succ]
  refine wpAnyH_take (i := 1) (oi := { dst := some 5, op := Op.move (Operand.tmp 0), type := 75, pos := "frag.go:45", after := #[], guard := none }) (v := ?fav1) rfl (by kernel_rfl) (by kernel_rfl) (by kernel_rfl) (fun _ _ _ h => h) (Or.inl ⟨by rfl, ?fah1⟩) (by assumption) ?far1
  case fah1 => ((intro w hSw; (try dsimp only at hSw); go_simp); try with_reducible rfl)
  try simp only [Act.put, List.setIfInBounds_toArray, List.set_cons_zero, List.set_cons_succ]
  refine wpAnyH_take (i := 2) (oi := { dst := some 6, op := Op.nilCheck (Operand.tmp 5), type := 0, pos := "frag.go:45", after := #[{ on := 1, ground := Ground.data }], guard := none }) (v := ?fav2) rfl (by kernel_rfl) (by kernel_rfl) (by kernel_rfl) (fun _ _ _ h => h) (Or.inl ⟨by rfl, ?fah2⟩) (by assumption) ?far2
  case fah2 => ((intro w hSw; (try dsimp only at hSw); go_simp); try with_reducible rfl)
  try simp only [Act.put, List.setIfInBounds_toArray, List.set_cons_zero, List.set_cons_succ]
  refine wpAnyH_take (i := 3) (oi := { dst := some 7, op := Op.fieldAddr 78 (Operand.tmp 6) 2, type := 0, pos := "frag.go:45", after := #[{ on := 2, ground := Ground.data }], guard := none }) (v := ?fav3) rfl (by kernel_rfl) (by kernel_rfl) (by kernel_rfl) (fun _ _ _ h => h) (Or.inl ⟨by rfl, ?fah3⟩) (by assumption) ?far3
  case fah3 => ((intro w hSw; (try dsimp only at hSw); go_simp); try with_reducible rfl)
  try simp only [Act.put, List.setIfInBounds_toArray, List.set_cons_zero, List.set_cons_succ]
  refine wpAnyH_take (i := 5) (oi := { dst := some 9, op := Op.move (Operand.tmp 0), type := 75, pos := "frag.go:45", after := #[], guard := none }) (v := ?fav5) rfl (by kernel_rfl) (by kernel_rfl) (by kernel_rfl) (fun _ _ _ h => h) (Or.inl ⟨by rfl, ?fah5⟩) (by assumption) ?far5
  case fah5 => ((intro w hSw; (try dsimp only at hSw); go_simp); try with_reducible rfl)
  try simp only [Act.put, List.setIfInBounds_toArray, List.set_cons_zero, List.set_cons_succ]
  refine wpAnyH_take (i := 6) (oi := { dst := some 10, op := Op.nilCheck (Operand.tmp 9), type := 0, pos := "frag.go:45", after := #[{ on := 5, ground := Ground.data }], guard := none }) (v := ?fav6) rfl (by kernel_rfl) (by kernel_rfl) (by kernel_rfl) (fun _ _ _ h => h) (Or.inl ⟨by rfl, ?fah6⟩) (by assumption) ?far6
  case fah6 => ((intro w hSw; (try dsimp only at hSw); go_simp); try with_reducible rfl)
  try simp only [Act.put, List.setIfInBounds_toArray, List.set_cons_zero, List.set_cons_succ]
  refine wpAnyH_take (i := 7) (oi := { dst := some 11, op := Op.fieldAddr 78 (Operand.tmp 10) 3, type := 0, pos := "frag.go:45", after := #[{ on := 6, ground := Ground.data }], guard := none }) (v := ?fav7) rfl (by kernel_rfl) (by kernel_rfl) (by kernel_rfl) (fun _ _ _ h => h) (Or.inl ⟨by rfl, ?fah7⟩) (by assumption) ?far7
  case fah7 => ((intro w hSw; (try dsimp only at hSw); go_simp); try with_reducible rfl)
  try simp only [Act.put, List.setIfInBounds_toArray, List.set_cons_zero, List.set_cons_succ]
  refine wpAnyH_take (i := 8) (oi := { dst := some 12, op := Op.load 3 (Operand.tmp 11), type := 3, pos := "frag.go:45", after := #[{ on := 7, ground := Ground.data }], guard := none }) (v := ?fav8) rfl (by kernel_rfl) (by kernel_rfl) (by kernel_rfl) (fun _ _ _ h => h) (Or.inl ⟨by rfl, ?fah8⟩) (by assumption) ?far8
  case fah8 => ((intro w hSw; (try dsimp only at hSw); go_simp); try with_reducible rfl)
  try simp only [Act.put, List.setIfInBounds_toArray, List.set_cons_zero, List.set_cons_succ]
  refine wpAnyH_take (i := 9) (oi := { dst := some 13, op := Op.move (Operand.tmp 0), type := 75, pos := "frag.go:45", after := #[], guard := none }) (v := ?fav9) rfl (by kernel_rfl) (by kernel_rfl) (by kernel_rfl) (fun _ _ _ h => h) (Or.inl ⟨by rfl, ?fah9⟩) (by assumption) ?far9
  case fah9 => ((intro w hSw; (try dsimp only at hSw); go_simp); try with_reducible rfl)
  try simp only [Act.put, List.setIfInBounds_toArray, List.set_cons_zero, List.set_cons_succ]
  refine wpAnyH_take (i := 10) (oi := { dst := some 14, op := Op.nilCheck (Operand.tmp 13), type := 0, pos := "frag.go:45", after := #[{ on := 9, ground := Ground.data }], guard := none }) (v := ?fav10) rfl (by kernel_rfl) (by kernel_rfl) (by kernel_rfl) (fun _ _ _ h => h) (Or.inl ⟨by rfl, ?fah10⟩) (by assumption) ?far10
  case fah10 => ((intro w hSw; (try dsimp only at hSw); go_simp); try with_reducible rfl)
  try simp only [Act.put, List.setIfInBounds_toArray, List.set_cons_zero, List.set_cons_succ]
  refine wpAnyH_take (i := 11) (oi := { dst := some 15, op := Op.fieldAddr 78 (Operand.tmp 14) 4, type := 0, pos := "frag.go:45", after := #[{ on := 10, ground := Ground.data }], guard := none }) (v := ?fav11) rfl (by kernel_rfl) (by kernel_rfl) (by kernel_rfl) (fun _ _ _ h => h) (Or.inl ⟨by rfl, ?fah11⟩) (by assumption) ?far11
  case fah11 => ((intro w hSw; (try dsimp only at hSw); go_simp); try with_reducible rfl)
  try simp only [Act.put, List.setIfInBounds_toArray, List.set_cons_zero, List.set_cons_succ]
  refine wpAnyH_take (i := 12) (oi := { dst := some 16, op := Op.load 3 (Operand.tmp 15), type := 3, pos := "frag.go:45", after := #[{ on := 11, ground := Ground.data }], guard := none }) (v := ?fav12) rfl (by kernel_rfl) (by kernel_rfl) (by kernel_rfl) (fun _ _ _ h => h) (Or.inl ⟨by rfl, ?fah12⟩) (by assumption) ?far12
  case fah12 => ((intro w hSw; (try dsimp only at hSw); go_simp); try with_reducible rfl)
  try simp only [Act.put, List.setIfInBounds_toArray, List.set_cons_zero, List.set_cons_succ]
  refine wpAnyH_take (i := 13) (oi := { dst := some 17, op := Op.move (Operand.tmp 1), type := 40, pos := "frag.go:45", after := #[], guard := none }) (v := ?fav13) rfl (by kernel_rfl) (by kernel_rfl) (by kernel_rfl) (fun _ _ _ h => h) (Or.inl ⟨by rfl, ?fah13⟩) (by assumption) ?far13
  case fah13 => ((intro w hSw; (try dsimp only at hSw); go_simp); try with_reducible rfl)
  try simp only [Act.put, List.setIfInBounds_toArray, List.set_cons_zero, List.set_cons_succ]
  refine wpAnyH_take (i := 14) (oi := { dst := some 18, op := Op.build 42 #[(0, Operand.tmp 12), (1, Operand.tmp 16), (2, Operand.tmp 17)], type := 42, pos := "frag.go:45", after := #[{ on := 8, ground := Ground.data }, { on := 12, ground := Ground.data }, { on := 13, ground := Ground.data }], guard := none }) (v := ?fav14) rfl (by kernel_rfl) (by kernel_rfl) (by kernel_rfl) (fun _ _ _ h => h) (Or.inl ⟨by rfl, ?fah14⟩) (by assumption) ?far14
  case fah14 => ((intro w hSw; (try dsimp only at hSw); go_simp); try with_reducible rfl)
  try simp only [Act.put, List.setIfInBounds_toArray, List.set_cons_zero, List.set_cons_succ]
  refine wpAnyH_ready (rs := [4, 15]) (by kernel_rfl) (by simp) ?_
  refine AllReadyH.cons (o := { dst := some 8, op := Op.load 33 (Operand.tmp 7), type := 33, pos := "frag.go:45", after := #[{ on := 3, ground := Ground.data }], guard := none }) rfl (fun K hK => ?_) ?_
  · go_simp; refine hK.out _ _ (by first | exact HH0.out | exact HSL.out _) (fun hHeld => ?_)
    clear hK K
    try simp only [Act.put, List.setIfInBounds_toArray, List.set_cons_zero, List.set_cons_succ]
    refine wpAnyH_ready (rs := [15]) (by kernel_rfl) (by simp) ?_
    refine AllReadyH.cons (o := { dst := some 19, op := Op.buildSlice 33 1 #[(0, Operand.tmp 18)], type := 33, pos := "frag.go:45", after := #[{ on := 14, ground := Ground.data }], guard := none }) rfl (fun K hK => ?_) AllReadyH.nil
    go_simp; refine hK.out _ _ (HSL.out _) (fun hHeld => ?_)
    clear hK K
    try simp only [Act.put, List.setIfInBounds_toArray, List.set_cons_zero, List.set_cons_succ]
    refine wpAnyH_ready (rs := [16]) (by kernel_rfl) (by simp) ?_
    refine AllReadyH.cons (o := { dst := some 20, op := Op.call { callee := Callee.builtin Builtin.append, args := #[Operand.tmp 8, Operand.tmp 19], argTypes := #[33, 33] }, type := 33, pos := "frag.go:45", after := #[{ on := 4, ground := Ground.data }, { on := 15, ground := Ground.data }], guard := none }) rfl (fun K hK => ?_) AllReadyH.nil
    (refine step_app EFault rfl (.tmp 8) (.tmp 19) rfl base (.slice pc fn cc) fn (X.fs.flatMap Ft.cells) rfl (HP7.out.alloc _) _ 1 1 (Ft.cells ⟨file, line, er⟩) rfl rfl (row_newAt _ _ _ _ rfl) (ft_ones _) (by unfold maxLen; omega) (by omega) (by simp; omega) ?_); intro vp' w8 ho8 hg8 hs8; obtain ⟨p8, c8, rfl, -⟩ := own_shape ho8; have HO8 := hid ho8; have HG8 := hid hg8; clear ho8 hg8 hs8; obtain ⟨hh8, ha8⟩ := HC.out.appFault (by rw [HVC.out]; exact HG8.out); have HA8 := hid ha8; have zf4 := frozen_of_row _ _ 4 _ _ hh8; have z4 := cell_of_row _ _ 4 _ _ _ hh8; clear hh8 ha8; refine hK.out _ _ HA8.out (fun hHeld => ?_)
    clear hK K
    try simp only [Act.put, List.setIfInBounds_toArray, List.set_cons_zero, List.set_cons_succ]
    refine wpAnyH_take (i := 17) (oi := { dst := some 21, op := Op.nilCheck (Operand.tmp 4), type := 0, pos := "frag.go:45", after := #[{ on := 0, ground := Ground.data }, { on := 0, ground := Ground.phase }, { on := 1, ground := Ground.phase }, { on := 2, ground := Ground.phase }, { on := 3, ground := Ground.phase }, { on := 4, ground := Ground.phase }, { on := 5, ground := Ground.phase }, { on := 6, ground := Ground.phase }, { on := 7, ground := Ground.phase }, { on := 8, ground := Ground.phase }, { on := 9, ground := Ground.phase }, { on := 10, ground := Ground.phase }, { on := 11, ground := Ground.phase }, { on := 12, ground := Ground.phase }, { on := 13, ground := Ground.phase }, { on := 14, ground := Ground.phase }, { on := 15, ground := Ground.phase }, { on := 16, ground := Ground.phase }], guard := none }) (v := ?faav17) rfl (by kernel_rfl) (by kernel_rfl) (by kernel_rfl) (fun _ _ _ h => h) (Or.inl ⟨by rfl, ?faah17⟩) (by assumption) ?faar17
    case faah17 => ((intro w hSw; (try dsimp only at hSw); go_simp); try with_reducible rfl)
    try simp only [Act.put, List.setIfInBounds_toArray, List.set_cons_zero, List.set_cons_succ]
    refine wpAnyH_take (i := 18) (oi := { dst := some 22, op := Op.fieldAddr 78 (Operand.tmp 21) 2, type := 0, pos := "frag.go:45", after := #[{ on := 17, ground := Ground.data }, { on := 0, ground := Ground.phase }, { on := 1, ground := Ground.phase }, { on := 2, ground := Ground.phase }, { on := 3, ground := Ground.phase }, { on := 4, ground := Ground.phase }, { on := 5, ground := Ground.phase }, { on := 6, ground := Ground.phase }, { on := 7, ground := Ground.phase }, { on := 8, ground := Ground.phase }, { on := 9, ground := Ground.phase }, { on := 10, ground := Ground.phase }, { on := 11, ground := Ground.phase }, { on := 12, ground := Ground.phase }, { on := 13, ground := Ground.phase }, { on := 14, ground := Ground.phase }, { on := 15, ground := Ground.phase }, { on := 16, ground := Ground.phase }], guard := none }) (v := ?faav18) rfl (by kernel_rfl) (by kernel_rfl) (by kernel_rfl) (fun _ _ _ h => h) (Or.inl ⟨by rfl, ?faah18⟩) (by assumption) ?faar18
    case faah18 => ((intro w hSw; (try dsimp only at hSw); go_simp); try with_reducible rfl)
    try simp only [Act.put, List.setIfInBounds_toArray, List.set_cons_zero, List.set_cons_succ]
    refine wpAnyH_ready (rs := [19]) (by kernel_rfl) (by simp) ?_
    refine AllReadyH.cons (o := { dst := none, op := Op.store 33 (Operand.tmp 22) (Operand.tmp 20), type := 0, pos := "frag.go:45", after := #[{ on := 18, ground := Ground.data }, { on := 16, ground := Ground.data }, { on := 16, ground := Ground.chain }, { on := 0, ground := Ground.phase }, { on := 1, ground := Ground.phase }, { on := 2, ground := Ground.phase }, { on := 3, ground := Ground.phase }, { on := 4, ground := Ground.phase }, { on := 5, ground := Ground.phase }, { on := 6, ground := Ground.phase }, { on := 7, ground := Ground.phase }, { on := 8, ground := Ground.phase }, { on := 9, ground := Ground.phase }, { on := 10, ground := Ground.phase }, { on := 11, ground := Ground.phase }, { on := 12, ground := Ground.phase }, { on := 13, ground := Ground.phase }, { on := 14, ground := Ground.phase }, { on := 15, ground := Ground.phase }, { on := 16, ground := Ground.phase }], guard := none }) rfl (fun K hK => ?_) AllReadyH.nil
    go_simp; refine hK.out _ _ (HA8.out.set (by decide) _) (fun hHeld => ?_)
    clear hK K
    try simp only [Act.put, List.setIfInBounds_toArray, List.set_cons_zero, List.set_cons_succ]
    refine wpAnyH_done (by kernel_rfl) ?_ _
    go_wp2_with fail
    have hfin := HC.out.finFault ⟨file, line, er⟩ (by rw [HFN.out]; exact HO8.out) (by rw [HVC.out]; exact HG8.out)
    go_end0
    exact ⟨rfl, ⟨_, hfin.1⟩, hfin.2⟩
  refine AllReadyH.cons (o := { dst := some 19, op := Op.buildSlice 33 1 #[(0, Operand.tmp 18)], type := 33, pos := "frag.go:45", after := #[{ on := 14, ground := Ground.data }], guard := none }) rfl (fun K hK => ?_) AllReadyH.nil
  go_simp; refine hK.out _ _ (HSL.out _) (fun hHeld => ?_)
  clear hK K
  try simp only [Act.put, List.setIfInBounds_toArray, List.set_cons_zero, List.set_cons_succ]
  refine wpAnyH_ready (rs := [4]) (by kernel_rfl) (by simp) ?_
  refine AllReadyH.cons (o := { dst := some 8, op := Op.load 33 (Operand.tmp 7), type := 33, pos := "frag.go:45", after := #[{ on := 3, ground := Ground.data }], guard := none }) rfl (fun K hK => ?_) AllReadyH.nil
  go_simp; refine hK.out _ _ (by first | exact HH0.out | exact HSL.out _) (fun hHeld => ?_)
  clear hK K
  try simp only [Act.put, List.setIfInBounds_toArray, List.set_cons_zero, List.set_cons_succ]
  refine wpAnyH_ready (rs := [16]) (by kernel_rfl) (by simp) ?_
  refine AllReadyH.cons (o := { dst := some 20, op := Op.call { callee := Callee.builtin Builtin.append, args := #[Operand.tmp 8, Operand.tmp 19], argTypes := #[33, 33] }, type := 33, pos := "frag.go:45", after := #[{ on := 4, ground := Ground.data }, { on := 15, ground := Ground.data }], guard := none }) rfl (fun K hK => ?_) AllReadyH.nil
  (refine step_app EFault rfl (.tmp 8) (.tmp 19) rfl base (.slice pc fn cc) fn (X.fs.flatMap Ft.cells) rfl (HP7.out.alloc _) _ 1 1 (Ft.cells ⟨file, line, er⟩) rfl rfl (row_newAt _ _ _ _ rfl) (ft_ones _) (by unfold maxLen; omega) (by omega) (by simp; omega) ?_); intro vp' w8 ho8 hg8 hs8; obtain ⟨p8, c8, rfl, -⟩ := own_shape ho8; have HO8 := hid ho8; have HG8 := hid hg8; clear ho8 hg8 hs8; obtain ⟨hh8, ha8⟩ := HC.out.appFault (by rw [HVC.out]; exact HG8.out); have HA8 := hid ha8; have zf4 := frozen_of_row _ _ 4 _ _ hh8; have z4 := cell_of_row _ _ 4 _ _ _ hh8; clear hh8 ha8; refine hK.out _ _ HA8.out (fun hHeld => ?_)
  clear hK K
  try simp only [Act.put, List.setIfInBounds_toArray, List.set_cons_zero, List.set_cons_succ]
  refine wpAnyH_take (i := 17) (oi := { dst := some 21, op := Op.nilCheck (Operand.tmp 4), type := 0, pos := "frag.go:45", after := #[{ on := 0, ground := Ground.data }, { on := 0, ground := Ground.phase }, { on := 1, ground := Ground.phase }, { on := 2, ground := Ground.phase }, { on := 3, ground := Ground.phase }, { on := 4, ground := Ground.phase }, { on := 5, ground := Ground.phase }, { on := 6, ground := Ground.phase }, { on := 7, ground := Ground.phase }, { on := 8, ground := Ground.phase }, { on := 9, ground := Ground.phase }, { on := 10, ground := Ground.phase }, { on := 11, ground := Ground.phase }, { on := 12, ground := Ground.phase }, { on := 13, ground := Ground.phase }, { on := 14, ground := Ground.phase }, { on := 15, ground := Ground.phase }, { on := 16, ground := Ground.phase }], guard := none }) (v := ?fabv17) rfl (by kernel_rfl) (by kernel_rfl) (by kernel_rfl) (fun _ _ _ h => h) (Or.inl ⟨by rfl, ?fabh17⟩) (by assumption) ?fabr17
  case fabh17 => ((intro w hSw; (try dsimp only at hSw); go_simp); try with_reducible rfl)
  try simp only [Act.put, List.setIfInBounds_toArray, List.set_cons_zero, List.set_cons_succ]
  refine wpAnyH_take (i := 18) (oi := { dst := some 22, op := Op.fieldAddr 78 (Operand.tmp 21) 2, type := 0, pos := "frag.go:45", after := #[{ on := 17, ground := Ground.data }, { on := 0, ground := Ground.phase }, { on := 1, ground := Ground.phase }, { on := 2, ground := Ground.phase }, { on := 3, ground := Ground.phase }, { on := 4, ground := Ground.phase }, { on := 5, ground := Ground.phase }, { on := 6, ground := Ground.phase }, { on := 7, ground := Ground.phase }, { on := 8, ground := Ground.phase }, { on := 9, ground := Ground.phase }, { on := 10, ground := Ground.phase }, { on := 11, ground := Ground.phase }, { on := 12, ground := Ground.phase }, { on := 13, ground := Ground.phase }, { on := 14, ground := Ground.phase }, { on := 15, ground := Ground.phase }, { on := 16, ground := Ground.phase }], guard := none }) (v := ?fabv18) rfl (by kernel_rfl) (by kernel_rfl) (by kernel_rfl) (fun _ _ _ h => h) (Or.inl ⟨by rfl, ?fabh18⟩) (by assumption) ?fabr18
  case fabh18 => ((intro w hSw; (try dsimp only at hSw); go_simp); try with_reducible rfl)
  try simp only [Act.put, List.setIfInBounds_toArray, List.set_cons_zero, List.set_cons_succ]
  refine wpAnyH_ready (rs := [19]) (by kernel_rfl) (by simp) ?_
  refine AllReadyH.cons (o := { dst := none, op := Op.store 33 (Operand.tmp 22) (Operand.tmp 20), type := 0, pos := "frag.go:45", after := #[{ on := 18, ground := Ground.data }, { on := 16, ground := Ground.data }, { on := 16, ground := Ground.chain }, { on := 0, ground := Ground.phase }, { on := 1, ground := Ground.phase }, { on := 2, ground := Ground.phase }, { on := 3, ground := Ground.phase }, { on := 4, ground := Ground.phase }, { on := 5, ground := Ground.phase }, { on := 6, ground := Ground.phase }, { on := 7, ground := Ground.phase }, { on := 8, ground := Ground.phase }, { on := 9, ground := Ground.phase }, { on := 10, ground := Ground.phase }, { on := 11, ground := Ground.phase }, { on := 12, ground := Ground.phase }, { on := 13, ground := Ground.phase }, { on := 14, ground := Ground.phase }, { on := 15, ground := Ground.phase }, { on := 16, ground := Ground.phase }], guard := none }) rfl (fun K hK => ?_) AllReadyH.nil
  go_simp; refine hK.out _ _ (HA8.out.set (by decide) _) (fun hHeld => ?_)
  clear hK K
  try simp only [Act.put, List.setIfInBounds_toArray, List.set_cons_zero, List.set_cons_succ]
  refine wpAnyH_done (by kernel_rfl) ?_ _
  go_wp2_with fail
  have hfin := HC.out.finFault ⟨file, line, er⟩ (by rw [HFN.out]; exact HO8.out) (by rw [HVC.out]; exact HG8.out)
  go_end0
  exact ⟨rfl, ⟨_, hfin.1⟩, hfin.2⟩
end Go.Proofs.Ythlingholhjcnaa
namespace Go.Proofs.Ythlingholhjcnaa
open Go.RowKit

section
variable {κ β : Type} [DecidableEq κ] {P : Program} {k : TypeId} {mk : κ → Value} {mv : β → Value}
theorem step_mapset {w : World} {ops : Array Oper} {o : Oper} {a : Act} {K' : Act → World → Prop} {Q : Exit → Act → World → Prop} {C : Prop} {t el : TypeId}
    (K : KeyOk P k mk) (ht : P.underlying t = some (.map k el)) (hg : o.guard = none) (mo xo vo : Operand) (hop : o.op = Op.mapUpdate t mo xo vo ∨ o.op = Op.insert t mo xo vo)
    (b : Nat) (m : List (κ × β)) (hm : a.eval mo = .map (some b)) (h : MapIs mk mv w b m) (x : κ) (hx : a.eval xo = mk x) (u : β) (hu : a.eval vo = mv u)
    (hK : ∀ w', MapIs mk mv w' b (aset m x u) → w.grownBy w' (some b) → K' (a.put o.dst undef) w') : if Region.wanted o (yielded ops a.tmps) = true then Oper.wp P o a w K' Q else C := by
  have hw : Region.wanted o (yielded ops a.tmps) = true := by simp [Region.wanted, hg]
  rw [if_pos hw]
  obtain ⟨w', hrun, r1, r2⟩ := h.run_update K ht x u
  unfold Oper.wp
  rcases hop with hop | hop
  · simp [execOp, hop, hm, hx, hu, hrun, Result.andThen]
    exact hK w' r1 r2
  · simp [execOp, hop, hm, hx, hu, hrun, Result.andThen]
    exact hK w' r1 r2
theorem step_maplook {w : World} {ops : Array Oper} {o : Oper} {a : Act} {K' : Act → World → Prop} {Q : Exit → Act → World → Prop} {C : Prop} {t el : TypeId}
    (K : KeyOk P k mk) (ht : P.underlying t = some (.map k el)) (hg : o.guard = none) (mo xo : Operand) (c : Bool) (hop : o.op = Op.lookup t mo xo c)
    (z : Value) (hz : (zeroValue el).run P w = .ok z w) (b : Nat) (m : List (κ × β)) (hm : a.eval mo = .map (some b)) (h : MapIs mk mv w b m) (x : κ) (hx : a.eval xo = mk x)
    (hK : K' (a.put o.dst (if c then .tuple #[((alook m x).map mv).getD z, .bool (alook m x).isSome] else ((alook m x).map mv).getD z)) w) : if Region.wanted o (yielded ops a.tmps) = true then Oper.wp P o a w K' Q else C := by
  have hw : Region.wanted o (yielded ops a.tmps) = true := by simp [Region.wanted, hg]
  rw [if_pos hw]
  unfold Oper.wp
  simp [execOp, hop, hm, hx, h.run_lookup K ht hz x c, Result.andThen]
  exact hK
end
end Go.Proofs.Ythlingholhjcnaa
namespace Go.Proofs.Ythlingholhjcnaa
open Go.RowKit
variable {W W' w w' : World} {base m mb : Nat} {X : FV} {file line : Int} {name : ByteArray}

theorem KStr : KeyOk Try.prog 9 Value.string := keyOk_string Try.underlying9
theorem below_drewN {B : Nat} {w w' : World} (h : Below B w w') (q : Nat) : Below B w (w'.drewN q) := ⟨h.os, h.tape, h.output, h.size, h.block⟩
theorem idx_lt {l : List ByteArray} {k : ByteArray} {i : Nat} (h : idxO l k = some i) : i < l.length := by
  unfold idxO at h
  exact (List.findIdx?_eq_some_iff_getElem.1 h).1
def SameH (W w' : World) : Prop := w'.heap = W.heap
theorem SameH.cell {a : Addr} {v : Value} (h : SameH W w') (hc : W.cell? a = some v) : w'.cell? a = some v := by unfold SameH at h; simp only [World.cell?, h] at hc ⊢; exact hc
/-- The part of the maker's name, which is there. -/
def PartT (W : World) (base m mb : Nat) (X : FV) (file line : Int) (name : ByteArray) (e : Ending) (w' : World) : Prop :=
  ∃ (X' : FV) (i g c : Nat), e = .returned (.tuple #[.pointer (some ⟨g, i * 4, none⟩), .int .i64 (i : Nat)]) ∧ X'.pv = .slice (some ⟨g, 0, none⟩) X'.ps.length c ∧ i < X'.ps.length ∧ CIs w' base m mb X' file line name ∧ TrnP isPM base W w' ∧ X'.ms = X.ms ∧ X'.gs = X.gs ∧ X'.fs = X.fs ∧ X'.mv = X.mv ∧ X'.gv = X.gv ∧ X'.fv = X.fv ∧
    ((X'.ps = X.ps ∧ idxO (X.ps.map PtR.name) name = some i) ∨ (X'.ps = X.ps ++ [⟨name, file, line, ⟨none, 0, []⟩⟩] ∧ i = X.ps.length ∧ idxO (X.ps.map PtR.name) name = none))
set_option maxRecDepth 20000 in
set_option maxHeartbeats 4000000 in
theorem part_old (h : CIs W base m mb X file line name) (hn : X.ps.length ≤ 1000000000) {i : Nat} (hi : idxO (X.ps.map PtR.name) name = some i) :
    Calls Try.prog 37 #[.pointer (some ⟨m, 0, none⟩)] W (PartT W base m mb X file line name) := by
  obtain ⟨c0, c1, c2, c3, c4, hfl⟩ := h.cells
  have HC := hid h
  have hil : i < X.ps.length := by have := idx_lt hi; simpa using this
  obtain ⟨g, c, hpv, hge, hlt, hcap, hcm⟩ := own_block h.is.parts (by omega)
  rw [hpv] at c0
  have c7 := hfl.n
  have HI := hid hi
  have HPV := hid hpv
  obtain ⟨am, hm, ha⟩ := h.mp
  have hlk : ∀ w1 : World, w1.heap = W.heap → (Instr.lookup 76 (.map (some mb)) (.string name) true).run Try.prog w1 = .ok (.tuple #[.int .i64 (i : Nat), .bool true]) w1 := fun w1 hw => by
    have hm1 : MapIs Value.string natV w1 mb am := by obtain ⟨es, cl, e, F⟩ := hm; exact ⟨es, cl, by rw [hw]; exact e, F⟩
    have hr := hm1.run_lookup KStr Try.underlying76 (show (zeroValue 3).run Try.prog w1 = .ok (.int .i64 0) w1 by kernel_rfl) name true
    rw [ha, hi] at hr
    exact hr
  have a3 : ∀ w1 : World, SameH W w1 → w1.cell? ⟨m, 3, none⟩ = some (.map (some mb)) := fun w1 hw => hw.cell c3
  have a7 : ∀ w1 : World, SameH W w1 → w1.cell? ⟨m, 7, none⟩ = some (.string name) := fun w1 hw => hw.cell c7
  have alk : ∀ w1 : World, SameH W w1 → (Instr.lookup 76 (.map (some mb)) (.string name) true).run Try.prog w1 = .ok (.tuple #[.int .i64 (i : Nat), .bool true]) w1 := fun w1 hw => hlk w1 hw
  have hHeld0 : SameH W W.drew := rfl
  have HIL := hid hil
  have hii : (i : Int) < X.ps.length := by omega
  clear h hfl hi hpv ha hm hlk
  unfold maxLen at hcm
  generalize hnn : X.ps.length = n at *
  have HNN := hid hnn
  clear hnn
  go_enter Try.func37, Try.ntmps37
  go_upto_region 1 with (fail)
  refine wp_region_held_drew (S := SameH W) (by kernel_rfl) hHeld0 (fun hHeld => ?_)
  refine wpAnyH_take (i := 0) (oi := { dst := some 7, op := Op.move (Operand.tmp 0), type := 75, pos := "frag.go:50", after := #[], guard := none }) (v := ?pav0) rfl (by kernel_rfl) (by kernel_rfl) (by kernel_rfl) (fun _ _ _ h => h) (Or.inl ⟨by rfl, ?pah0⟩) (by assumption) ?par0
  case pah0 => ((intro w hSw; (try dsimp only at hSw); go_simp); try with_reducible rfl)
  try simp only [Act.put, List.setIfInBounds_toArray, List.set_cons_zero, List.set_cons_succ]
  refine wpAnyH_take (i := 1) (oi := { dst := some 8, op := Op.nilCheck (Operand.tmp 7), type := 0, pos := "frag.go:50", after := #[{ on := 0, ground := Ground.data }], guard := none }) (v := ?pav1) rfl (by kernel_rfl) (by kernel_rfl) (by kernel_rfl) (fun _ _ _ h => h) (Or.inl ⟨by rfl, ?pah1⟩) (by assumption) ?par1
  case pah1 => ((intro w hSw; (try dsimp only at hSw); go_simp); try with_reducible rfl)
  try simp only [Act.put, List.setIfInBounds_toArray, List.set_cons_zero, List.set_cons_succ]
  refine wpAnyH_take (i := 2) (oi := { dst := some 9, op := Op.fieldAddr 78 (Operand.tmp 8) 1, type := 0, pos := "frag.go:50", after := #[{ on := 1, ground := Ground.data }], guard := none }) (v := ?pav2) rfl (by kernel_rfl) (by kernel_rfl) (by kernel_rfl) (fun _ _ _ h => h) (Or.inl ⟨by rfl, ?pah2⟩) (by assumption) ?par2
  case pah2 => ((intro w hSw; (try dsimp only at hSw); go_simp); try with_reducible rfl)
  try simp only [Act.put, List.setIfInBounds_toArray, List.set_cons_zero, List.set_cons_succ]
  refine wpAnyH_take (i := 3) (oi := { dst := some 10, op := Op.load 76 (Operand.tmp 9), type := 76, pos := "frag.go:50", after := #[{ on := 2, ground := Ground.data }], guard := none }) (v := ?pav3) rfl (by kernel_rfl) (by kernel_rfl) (by kernel_rfl) (fun _ _ _ h => h) (Or.inl ⟨by rfl, ?pah3⟩) (by assumption) ?par3
  case pah3 => ((intro w hSw; (try dsimp only at hSw); go_simp); try with_reducible rfl)
  try simp only [Act.put, List.setIfInBounds_toArray, List.set_cons_zero, List.set_cons_succ]
  refine wpAnyH_take (i := 4) (oi := { dst := some 11, op := Op.move (Operand.tmp 0), type := 75, pos := "frag.go:50", after := #[], guard := none }) (v := ?pav4) rfl (by kernel_rfl) (by kernel_rfl) (by kernel_rfl) (fun _ _ _ h => h) (Or.inl ⟨by rfl, ?pah4⟩) (by assumption) ?par4
  case pah4 => ((intro w hSw; (try dsimp only at hSw); go_simp); try with_reducible rfl)
  try simp only [Act.put, List.setIfInBounds_toArray, List.set_cons_zero, List.set_cons_succ]
  refine wpAnyH_take (i := 5) (oi := { dst := some 12, op := Op.nilCheck (Operand.tmp 11), type := 0, pos := "frag.go:50", after := #[{ on := 4, ground := Ground.data }], guard := none }) (v := ?pav5) rfl (by kernel_rfl) (by kernel_rfl) (by kernel_rfl) (fun _ _ _ h => h) (Or.inl ⟨by rfl, ?pah5⟩) (by assumption) ?par5
  case pah5 => ((intro w hSw; (try dsimp only at hSw); go_simp); try with_reducible rfl)
  try simp only [Act.put, List.setIfInBounds_toArray, List.set_cons_zero, List.set_cons_succ]
  refine wpAnyH_take (i := 6) (oi := { dst := some 13, op := Op.fieldAddr 78 (Operand.tmp 12) 5, type := 0, pos := "frag.go:50", after := #[{ on := 5, ground := Ground.data }], guard := none }) (v := ?pav6) rfl (by kernel_rfl) (by kernel_rfl) (by kernel_rfl) (fun _ _ _ h => h) (Or.inl ⟨by rfl, ?pah6⟩) (by assumption) ?par6
  case pah6 => ((intro w hSw; (try dsimp only at hSw); go_simp); try with_reducible rfl)
  try simp only [Act.put, List.setIfInBounds_toArray, List.set_cons_zero, List.set_cons_succ]
  refine wpAnyH_take (i := 7) (oi := { dst := some 14, op := Op.load 9 (Operand.tmp 13), type := 9, pos := "frag.go:50", after := #[{ on := 6, ground := Ground.data }], guard := none }) (v := ?pav7) rfl (by kernel_rfl) (by kernel_rfl) (by kernel_rfl) (fun _ _ _ h => h) (Or.inl ⟨by rfl, ?pah7⟩) (by assumption) ?par7
  case pah7 => ((intro w hSw; (try dsimp only at hSw); go_simp); try with_reducible rfl)
  try simp only [Act.put, List.setIfInBounds_toArray, List.set_cons_zero, List.set_cons_succ]
  refine wpAnyH_take (i := 8) (oi := { dst := some 15, op := Op.lookup 76 (Operand.tmp 10) (Operand.tmp 14) true, type := 92, pos := "frag.go:50", after := #[{ on := 3, ground := Ground.data }, { on := 7, ground := Ground.data }], guard := none }) (v := ?pav8) rfl (by kernel_rfl) (by kernel_rfl) (by kernel_rfl) (fun _ _ _ h => h) (Or.inl ⟨by rfl, ?pah8⟩) (by assumption) ?par8
  case pah8 => ((intro w hSw; (try dsimp only at hSw); go_simp); try with_reducible rfl)
  try simp only [Act.put, List.setIfInBounds_toArray, List.set_cons_zero, List.set_cons_succ]
  refine wpAnyH_take (i := 9) (oi := { dst := some 6, op := Op.move (Operand.tmp 15), type := 92, pos := "frag.go:50", after := #[{ on := 8, ground := Ground.data }], guard := none }) (v := ?pav9) rfl (by kernel_rfl) (by kernel_rfl) (by kernel_rfl) (fun _ _ _ h => h) (Or.inl ⟨by rfl, ?pah9⟩) (by assumption) ?par9
  case pah9 => ((intro w hSw; (try dsimp only at hSw); go_simp); try with_reducible rfl)
  try simp only [Act.put, List.setIfInBounds_toArray, List.set_cons_zero, List.set_cons_succ]
  refine wpAnyH_take (i := 10) (oi := { dst := some 16, op := Op.extract (Operand.tmp 6) 0, type := 3, pos := "frag.go:50", after := #[{ on := 9, ground := Ground.data }], guard := none }) (v := ?pav10) rfl (by kernel_rfl) (by kernel_rfl) (by kernel_rfl) (fun _ _ _ h => h) (Or.inl ⟨by rfl, ?pah10⟩) (by assumption) ?par10
  case pah10 => ((intro w hSw; (try dsimp only at hSw); go_simp); try with_reducible rfl)
  try simp only [Act.put, List.setIfInBounds_toArray, List.set_cons_zero, List.set_cons_succ]
  refine wpAnyH_take (i := 11) (oi := { dst := some 17, op := Op.extract (Operand.tmp 6) 1, type := 4, pos := "frag.go:50", after := #[{ on := 9, ground := Ground.data }, { on := 12, ground := Ground.gcOnly Departure.lateStores }], guard := none }) (v := ?pav11) rfl (by kernel_rfl) (by kernel_rfl) (by kernel_rfl) (fun _ _ _ h => h) (Or.inl ⟨by rfl, ?pah11⟩) (by assumption) ?par11
  case pah11 => ((intro w hSw; (try dsimp only at hSw); go_simp); try with_reducible rfl)
  try simp only [Act.put, List.setIfInBounds_toArray, List.set_cons_zero, List.set_cons_succ]
  refine wpAnyH_take (i := 12) (oi := { dst := some 4, op := Op.assign (Operand.tmp 16), type := 3, pos := "frag.go:50", after := #[{ on := 10, ground := Ground.data }, { on := 0, ground := Ground.phase }, { on := 1, ground := Ground.phase }, { on := 2, ground := Ground.phase }, { on := 3, ground := Ground.phase }, { on := 4, ground := Ground.phase }, { on := 5, ground := Ground.phase }, { on := 6, ground := Ground.phase }, { on := 7, ground := Ground.phase }, { on := 8, ground := Ground.phase }, { on := 9, ground := Ground.phase }, { on := 10, ground := Ground.phase }, { on := 11, ground := Ground.textOnly Departure.lateStores }], guard := none }) (v := ?pav12) rfl (by kernel_rfl) (by kernel_rfl) (by kernel_rfl) (fun _ _ _ h => h) (Or.inl ⟨by rfl, ?pah12⟩) (by assumption) ?par12
  case pah12 => ((intro w hSw; (try dsimp only at hSw); go_simp); try with_reducible rfl)
  try simp only [Act.put, List.setIfInBounds_toArray, List.set_cons_zero, List.set_cons_succ]
  refine wpAnyH_take (i := 13) (oi := { dst := some 5, op := Op.assign (Operand.tmp 17), type := 4, pos := "frag.go:50", after := #[{ on := 11, ground := Ground.data }, { on := 12, ground := Ground.chain }, { on := 0, ground := Ground.phase }, { on := 1, ground := Ground.phase }, { on := 2, ground := Ground.phase }, { on := 3, ground := Ground.phase }, { on := 4, ground := Ground.phase }, { on := 5, ground := Ground.phase }, { on := 6, ground := Ground.phase }, { on := 7, ground := Ground.phase }, { on := 8, ground := Ground.phase }, { on := 9, ground := Ground.phase }, { on := 10, ground := Ground.phase }, { on := 11, ground := Ground.phase }, { on := 12, ground := Ground.phase }], guard := none }) (v := ?pav13) rfl (by kernel_rfl) (by kernel_rfl) (by kernel_rfl) (fun _ _ _ h => h) (Or.inl ⟨by rfl, ?pah13⟩) (by assumption) ?par13
  case pah13 => ((intro w hSw; (try dsimp only at hSw); go_simp); try with_reducible rfl)
  try simp only [Act.put, List.setIfInBounds_toArray, List.set_cons_zero, List.set_cons_succ]
  refine wpAnyH_done (by kernel_rfl) ?_ _
  go_wp2_with fail
  go_ret2
  refine ⟨X, i, g, c, rfl, by rw [HNN.out]; exact HPV.out, by rw [HNN.out]; exact HIL.out, HC.out.below (Below.refl _ _).drew, TrnP.below (Below.refl _ _).drew HC.out.hz, rfl, rfl, rfl, rfl, rfl, rfl, .inl ⟨rfl, HI.out⟩⟩
end Go.Proofs.Ythlingholhjcnaa
namespace Go.Proofs.Ythlingholhjcnaa
open Go.RowKit
variable {W W' w w' : World} {base m mb : Nat} {X : FV} {file line : Int} {name : ByteArray} {nm : List ByteArray}

theorem alook_set {κ β : Type} [DecidableEq κ] (m : List (κ × β)) (x : κ) (u : β) (y : κ) : alook (aset m x u) y = if y = x then some u else alook m y := by
  induction m with
  | nil => simp [aset, alook]
  | cons p r ih =>
    obtain ⟨a, v⟩ := p
    by_cases hx : x = a
    · subst hx
      simp only [aset, if_true, alook]
      by_cases hy : y = x <;> simp [hy]
    · simp only [aset, if_neg hx, alook]
      by_cases hy : y = a
      · subst hy; simp [Ne.symm hx]
      · simp [hy, ih]
theorem idx_app (k : ByteArray) (h : idxO nm name = none) : idxO (nm ++ [name]) k = if name = k then some nm.length else idxO nm k := by
  unfold idxO at h ⊢
  rw [List.findIdx?_append]
  by_cases e : name = k
  · subst e
    rw [h]
    simp
  · cases hq : List.findIdx? (fun x => decide (x = k)) nm with
    | some i => simp [e]
    | none => simp [e]
theorem CIsN.mapset (h : CIsN W base m mb X nm file line name) {am : List (ByteArray × Nat)} (ha : ∀ k, alook am k = idxO nm k) (hn : idxO nm name = none) (hm : MapIs Value.string natV w' mb (aset am name nm.length)) (hg : W.grownBy w' (some mb)) :
    CIsN w' base m mb X (nm ++ [name]) file line name ∧ TrnP isPM base W w' := by
  obtain ⟨am0, hm0, _⟩ := h.mp
  have htm := map_tag hm0
  have hl : Lies base (fun y => y ≠ 0) W w' := Lies.grown hg (fun g e => by cases e; exact ⟨htm, h.ge.2⟩) (fun hn => hn rfl) h.hz
  refine ⟨⟨(hl.tag m _ h.tagM (by decide)).trans h.head, ⟨_, hm, fun k => ?_⟩, h.is.lies (hl.mono ?_), h.ge⟩, TrnP.grown hg (fun g e => by cases e; exact ⟨htm, h.ge.2⟩) (by unfold isPM isPT; decide) h.hz⟩
  · rw [idx_app k hn, alook_set]
    by_cases e : name = k
    · subst e; simp
    · rw [if_neg e, if_neg (fun e2 => e e2.symm), ha]
  · rintro y ((rfl | rfl | rfl | rfl | rfl) | (rfl | rfl)) <;> decide
theorem CIsN.finPart (h : CIsN W base m mb X nm file line name) {o : Obj} {w8 : World} {v' : Value} (y : PtR) (hy : y.pieces = ⟨none, 0, []⟩) (ho : w8.ownsRow base 50 4 v' (X.ps.length + 1) (X.ps.flatMap PtR.cells ++ y.cells)) (hg : (W.alloc o).drew.grownBy w8 X.pv.ownBlock) :
    CIsN (w8.setCell ⟨m, 0, none⟩ v') base m mb { X with pv := v', ps := X.ps ++ [y] } nm file line name ∧ TrnP isPM base W (w8.setCell ⟨m, 0, none⟩ v') := by
  have hA := h.below (alloc_below W o)
  have hg := grown_undrew hg
  have hr : ∀ g, X.pv.ownBlock = some g → tagAt (W.alloc o) g = some (50 + 1) ∧ base ≤ g := fun g hgg => ⟨own_tag hA.is.parts hgg, own_ge hA.is.parts g hgg⟩
  have hl : Lies base (fun y => y ≠ 50 + 1) (W.alloc o) w8 := Lies.grown hg hr (fun hn => hn rfl) hA.hz
  have ht : TrnP isPM base W w8 := (TrnP.below (alloc_below W o) h.hz).trans (TrnP.grown hg hr (by unfold isPM isPT; decide) hA.hz)
  exact ⟨hA.store hl ⟨by decide, by decide⟩ (hA.is.addPart hA.hz y hy ho hg) 0 v' rfl, TrnP.store (by unfold isPM isPT; decide) h ht (tag_blk hA.tagM (hl.tag m _ hA.tagM (by decide))) 0 v'⟩
theorem CIsN.appPart (h : CIsN W base m mb X nm file line name) {o : Obj} {w8 : World} (hg : (W.alloc o).drew.grownBy w8 X.pv.ownBlock) : w8.heap[m]? = some (.cells (headC X mb file line name) 78 (0, 0)) ∧ FL m 5 file line name w8 := by
  have hA := h.below (alloc_below W o)
  have hg := grown_undrew hg
  have e : w8.heap[m]? = (W.alloc o).heap[m]? := hg.block m hA.lt (fun e => tag_ne (own_tag hA.is.parts e.symm) hA.tagM (by decide) rfl)
  exact ⟨e.trans hA.head, hA.cells.2.2.2.2.2.blk e⟩
def HdC (m mb : Nat) (X : FV) (file line : Int) (name : ByteArray) (w' : World) : Prop := w'.heap[m]? = some (.cells (headC X mb file line name) 78 (0, 0))
set_option maxRecDepth 20000 in
set_option maxHeartbeats 4000000 in
theorem part_new (h : CIs W base m mb X file line name) (hn : X.ps.length ≤ 1000000000) (hi : idxO (X.ps.map PtR.name) name = none) :
    Calls Try.prog 37 #[.pointer (some ⟨m, 0, none⟩)] W (PartT W base m mb X file line name) := by
  obtain ⟨c0, c1, c2, c3, c4, hfl⟩ := h.cells
  have HC := hid h
  have HFL := hid hfl
  obtain ⟨pv, cv, hpv, -⟩ := own_shape h.is.parts
  have HPV := hid hpv
  rw [hpv] at c0
  have c7 := hfl.n
  have HI := hid hi
  obtain ⟨am, hm, ha⟩ := h.mp
  have HM := hid hm
  have HA := hid ha
  have a3 : ∀ w1 : World, SameH W w1 → w1.cell? ⟨m, 3, none⟩ = some (.map (some mb)) := fun w1 hw => hw.cell c3
  have a7 : ∀ w1 : World, SameH W w1 → w1.cell? ⟨m, 7, none⟩ = some (.string name) := fun w1 hw => hw.cell c7
  have alk : ∀ w1 : World, SameH W w1 → (Instr.lookup 76 (.map (some mb)) (.string name) true).run Try.prog w1 = .ok (.tuple #[.int .i64 (0 : Nat), .bool false]) w1 := fun w1 hw => by
    have hm1 : MapIs Value.string natV w1 mb am := by obtain ⟨es, cl, e, F⟩ := hm; exact ⟨es, cl, by rw [show w1.heap = W.heap from hw]; exact e, F⟩
    have hr := hm1.run_lookup KStr Try.underlying76 (show (zeroValue 3).run Try.prog w1 = .ok (.int .i64 0) w1 by kernel_rfl) name true
    rw [ha, hi] at hr
    exact hr
  have hHeld0 : SameH W W.drew := rfl
  have hHeld1 : HdC m mb X file line name W.drew.drew := h.head
  have b3 : ∀ w1 : World, HdC m mb X file line name w1 → w1.cell? ⟨m, 3, none⟩ = some (.map (some mb)) := fun w1 hw => cell_of_row _ _ 3 _ _ _ hw
  have b7 : ∀ w1 : World, HdC m mb X file line name w1 → w1.cell? ⟨m, 7, none⟩ = some (.string name) := fun w1 hw => cell_of_row _ _ 7 _ _ _ hw
  have HM1 : Hid (MapIs Value.string natV W.drew.drew mb am) := hm
  have HN2 : Hid (∀ w5 : World, MapIs Value.string natV w5 mb (aset am name X.ps.length) → W.drew.drew.grownBy w5 (some mb) → CIsN w5 base m mb X (X.ps.map PtR.name ++ [name]) file line name ∧ TrnP isPM base W w5) := fun w5 hm5 hg5 => by
    have e : (X.ps.map PtR.name).length = X.ps.length := by simp
    have h2 := CIsN.mapset h ha hi (by rw [e]; exact hm5) (grown_undrew (grown_undrew hg5))
    exact h2
  have hnl : (X.ps.map PtR.name).length = X.ps.length := by simp
  have HNL := hid hnl
  clear h hfl hi hpv ha hm hnl
  generalize hnn : X.ps.length = n at *
  have HNN := hid hnn
  clear hnn
  go_enter Try.func37, Try.ntmps37
  go_upto_region 1 with (fail)
  refine wp_region_held_drew (S := SameH W) (by kernel_rfl) hHeld0 (fun hHeld => ?_)
  refine wpAnyH_take (i := 0) (oi := { dst := some 7, op := Op.move (Operand.tmp 0), type := 75, pos := "frag.go:50", after := #[], guard := none }) (v := ?pav0) rfl (by kernel_rfl) (by kernel_rfl) (by kernel_rfl) (fun _ _ _ h => h) (Or.inl ⟨by rfl, ?pah0⟩) (by assumption) ?par0
  case pah0 => ((intro w hSw; (try dsimp only at hSw); go_simp); try with_reducible rfl)
  try simp only [Act.put, List.setIfInBounds_toArray, List.set_cons_zero, List.set_cons_succ]
  refine wpAnyH_take (i := 1) (oi := { dst := some 8, op := Op.nilCheck (Operand.tmp 7), type := 0, pos := "frag.go:50", after := #[{ on := 0, ground := Ground.data }], guard := none }) (v := ?pav1) rfl (by kernel_rfl) (by kernel_rfl) (by kernel_rfl) (fun _ _ _ h => h) (Or.inl ⟨by rfl, ?pah1⟩) (by assumption) ?par1
  case pah1 => ((intro w hSw; (try dsimp only at hSw); go_simp); try with_reducible rfl)
  try simp only [Act.put, List.setIfInBounds_toArray, List.set_cons_zero, List.set_cons_succ]
  refine wpAnyH_take (i := 2) (oi := { dst := some 9, op := Op.fieldAddr 78 (Operand.tmp 8) 1, type := 0, pos := "frag.go:50", after := #[{ on := 1, ground := Ground.data }], guard := none }) (v := ?pav2) rfl (by kernel_rfl) (by kernel_rfl) (by kernel_rfl) (fun _ _ _ h => h) (Or.inl ⟨by rfl, ?pah2⟩) (by assumption) ?par2
  case pah2 => ((intro w hSw; (try dsimp only at hSw); go_simp); try with_reducible rfl)
  try simp only [Act.put, List.setIfInBounds_toArray, List.set_cons_zero, List.set_cons_succ]
  refine wpAnyH_take (i := 3) (oi := { dst := some 10, op := Op.load 76 (Operand.tmp 9), type := 76, pos := "frag.go:50", after := #[{ on := 2, ground := Ground.data }], guard := none }) (v := ?pav3) rfl (by kernel_rfl) (by kernel_rfl) (by kernel_rfl) (fun _ _ _ h => h) (Or.inl ⟨by rfl, ?pah3⟩) (by assumption) ?par3
  case pah3 => ((intro w hSw; (try dsimp only at hSw); go_simp); try with_reducible rfl)
  try simp only [Act.put, List.setIfInBounds_toArray, List.set_cons_zero, List.set_cons_succ]
  refine wpAnyH_take (i := 4) (oi := { dst := some 11, op := Op.move (Operand.tmp 0), type := 75, pos := "frag.go:50", after := #[], guard := none }) (v := ?pav4) rfl (by kernel_rfl) (by kernel_rfl) (by kernel_rfl) (fun _ _ _ h => h) (Or.inl ⟨by rfl, ?pah4⟩) (by assumption) ?par4
  case pah4 => ((intro w hSw; (try dsimp only at hSw); go_simp); try with_reducible rfl)
  try simp only [Act.put, List.setIfInBounds_toArray, List.set_cons_zero, List.set_cons_succ]
  refine wpAnyH_take (i := 5) (oi := { dst := some 12, op := Op.nilCheck (Operand.tmp 11), type := 0, pos := "frag.go:50", after := #[{ on := 4, ground := Ground.data }], guard := none }) (v := ?pav5) rfl (by kernel_rfl) (by kernel_rfl) (by kernel_rfl) (fun _ _ _ h => h) (Or.inl ⟨by rfl, ?pah5⟩) (by assumption) ?par5
  case pah5 => ((intro w hSw; (try dsimp only at hSw); go_simp); try with_reducible rfl)
  try simp only [Act.put, List.setIfInBounds_toArray, List.set_cons_zero, List.set_cons_succ]
  refine wpAnyH_take (i := 6) (oi := { dst := some 13, op := Op.fieldAddr 78 (Operand.tmp 12) 5, type := 0, pos := "frag.go:50", after := #[{ on := 5, ground := Ground.data }], guard := none }) (v := ?pav6) rfl (by kernel_rfl) (by kernel_rfl) (by kernel_rfl) (fun _ _ _ h => h) (Or.inl ⟨by rfl, ?pah6⟩) (by assumption) ?par6
  case pah6 => ((intro w hSw; (try dsimp only at hSw); go_simp); try with_reducible rfl)
  try simp only [Act.put, List.setIfInBounds_toArray, List.set_cons_zero, List.set_cons_succ]
  refine wpAnyH_take (i := 7) (oi := { dst := some 14, op := Op.load 9 (Operand.tmp 13), type := 9, pos := "frag.go:50", after := #[{ on := 6, ground := Ground.data }], guard := none }) (v := ?pav7) rfl (by kernel_rfl) (by kernel_rfl) (by kernel_rfl) (fun _ _ _ h => h) (Or.inl ⟨by rfl, ?pah7⟩) (by assumption) ?par7
  case pah7 => ((intro w hSw; (try dsimp only at hSw); go_simp); try with_reducible rfl)
  try simp only [Act.put, List.setIfInBounds_toArray, List.set_cons_zero, List.set_cons_succ]
  refine wpAnyH_take (i := 8) (oi := { dst := some 15, op := Op.lookup 76 (Operand.tmp 10) (Operand.tmp 14) true, type := 92, pos := "frag.go:50", after := #[{ on := 3, ground := Ground.data }, { on := 7, ground := Ground.data }], guard := none }) (v := ?pav8) rfl (by kernel_rfl) (by kernel_rfl) (by kernel_rfl) (fun _ _ _ h => h) (Or.inl ⟨by rfl, ?pah8⟩) (by assumption) ?par8
  case pah8 => ((intro w hSw; (try dsimp only at hSw); go_simp); try with_reducible rfl)
  try simp only [Act.put, List.setIfInBounds_toArray, List.set_cons_zero, List.set_cons_succ]
  refine wpAnyH_take (i := 9) (oi := { dst := some 6, op := Op.move (Operand.tmp 15), type := 92, pos := "frag.go:50", after := #[{ on := 8, ground := Ground.data }], guard := none }) (v := ?pav9) rfl (by kernel_rfl) (by kernel_rfl) (by kernel_rfl) (fun _ _ _ h => h) (Or.inl ⟨by rfl, ?pah9⟩) (by assumption) ?par9
  case pah9 => ((intro w hSw; (try dsimp only at hSw); go_simp); try with_reducible rfl)
  try simp only [Act.put, List.setIfInBounds_toArray, List.set_cons_zero, List.set_cons_succ]
  refine wpAnyH_take (i := 10) (oi := { dst := some 16, op := Op.extract (Operand.tmp 6) 0, type := 3, pos := "frag.go:50", after := #[{ on := 9, ground := Ground.data }], guard := none }) (v := ?pav10) rfl (by kernel_rfl) (by kernel_rfl) (by kernel_rfl) (fun _ _ _ h => h) (Or.inl ⟨by rfl, ?pah10⟩) (by assumption) ?par10
  case pah10 => ((intro w hSw; (try dsimp only at hSw); go_simp); try with_reducible rfl)
  try simp only [Act.put, List.setIfInBounds_toArray, List.set_cons_zero, List.set_cons_succ]
  refine wpAnyH_take (i := 11) (oi := { dst := some 17, op := Op.extract (Operand.tmp 6) 1, type := 4, pos := "frag.go:50", after := #[{ on := 9, ground := Ground.data }, { on := 12, ground := Ground.gcOnly Departure.lateStores }], guard := none }) (v := ?pav11) rfl (by kernel_rfl) (by kernel_rfl) (by kernel_rfl) (fun _ _ _ h => h) (Or.inl ⟨by rfl, ?pah11⟩) (by assumption) ?par11
  case pah11 => ((intro w hSw; (try dsimp only at hSw); go_simp); try with_reducible rfl)
  try simp only [Act.put, List.setIfInBounds_toArray, List.set_cons_zero, List.set_cons_succ]
  refine wpAnyH_take (i := 12) (oi := { dst := some 4, op := Op.assign (Operand.tmp 16), type := 3, pos := "frag.go:50", after := #[{ on := 10, ground := Ground.data }, { on := 0, ground := Ground.phase }, { on := 1, ground := Ground.phase }, { on := 2, ground := Ground.phase }, { on := 3, ground := Ground.phase }, { on := 4, ground := Ground.phase }, { on := 5, ground := Ground.phase }, { on := 6, ground := Ground.phase }, { on := 7, ground := Ground.phase }, { on := 8, ground := Ground.phase }, { on := 9, ground := Ground.phase }, { on := 10, ground := Ground.phase }, { on := 11, ground := Ground.textOnly Departure.lateStores }], guard := none }) (v := ?pav12) rfl (by kernel_rfl) (by kernel_rfl) (by kernel_rfl) (fun _ _ _ h => h) (Or.inl ⟨by rfl, ?pah12⟩) (by assumption) ?par12
  case pah12 => ((intro w hSw; (try dsimp only at hSw); go_simp); try with_reducible rfl)
  try simp only [Act.put, List.setIfInBounds_toArray, List.set_cons_zero, List.set_cons_succ]
  refine wpAnyH_take (i := 13) (oi := { dst := some 5, op := Op.assign (Operand.tmp 17), type := 4, pos := "frag.go:50", after := #[{ on := 11, ground := Ground.data }, { on := 12, ground := Ground.chain }, { on := 0, ground := Ground.phase }, { on := 1, ground := Ground.phase }, { on := 2, ground := Ground.phase }, { on := 3, ground := Ground.phase }, { on := 4, ground := Ground.phase }, { on := 5, ground := Ground.phase }, { on := 6, ground := Ground.phase }, { on := 7, ground := Ground.phase }, { on := 8, ground := Ground.phase }, { on := 9, ground := Ground.phase }, { on := 10, ground := Ground.phase }, { on := 11, ground := Ground.phase }, { on := 12, ground := Ground.phase }], guard := none }) (v := ?pav13) rfl (by kernel_rfl) (by kernel_rfl) (by kernel_rfl) (fun _ _ _ h => h) (Or.inl ⟨by rfl, ?pah13⟩) (by assumption) ?par13
  case pah13 => ((intro w hSw; (try dsimp only at hSw); go_simp); try with_reducible rfl)
  try simp only [Act.put, List.setIfInBounds_toArray, List.set_cons_zero, List.set_cons_succ]
  refine wpAnyH_done (by kernel_rfl) ?_ _
  go_upto_region 4 with (fail)
  go_cut [4] (fun nv wx => nv = .int .i64 (n : Nat) ∧ CIsN wx base m mb X (X.ps.map PtR.name ++ [name]) file line name ∧ TrnP isPM base W wx)
  case first =>
    refine wp_region_held_drew (S := HdC m mb X file line name) (by kernel_rfl) hHeld1 (fun hHeld => ?_)
    refine wpAnyH_take (i := 0) (oi := { dst := some 26, op := Op.move (Operand.tmp 0), type := 75, pos := "frag.go:53", after := #[], guard := none }) (v := ?pbv0) rfl (by kernel_rfl) (by kernel_rfl) (by kernel_rfl) (fun _ _ _ h => h) (Or.inl ⟨by rfl, ?pbh0⟩) (by assumption) ?pbr0
    case pbh0 => ((intro w hSw; (try dsimp only at hSw); go_simp); try with_reducible rfl)
    try simp only [Act.put, List.setIfInBounds_toArray, List.set_cons_zero, List.set_cons_succ]
    refine wpAnyH_take (i := 1) (oi := { dst := some 27, op := Op.nilCheck (Operand.tmp 26), type := 0, pos := "frag.go:53", after := #[{ on := 0, ground := Ground.data }], guard := none }) (v := ?pbv1) rfl (by kernel_rfl) (by kernel_rfl) (by kernel_rfl) (fun _ _ _ h => h) (Or.inl ⟨by rfl, ?pbh1⟩) (by assumption) ?pbr1
    case pbh1 => ((intro w hSw; (try dsimp only at hSw); go_simp); try with_reducible rfl)
    try simp only [Act.put, List.setIfInBounds_toArray, List.set_cons_zero, List.set_cons_succ]
    refine wpAnyH_take (i := 2) (oi := { dst := some 28, op := Op.fieldAddr 78 (Operand.tmp 27) 1, type := 0, pos := "frag.go:53", after := #[{ on := 1, ground := Ground.data }], guard := none }) (v := ?pbv2) rfl (by kernel_rfl) (by kernel_rfl) (by kernel_rfl) (fun _ _ _ h => h) (Or.inl ⟨by rfl, ?pbh2⟩) (by assumption) ?pbr2
    case pbh2 => ((intro w hSw; (try dsimp only at hSw); go_simp); try with_reducible rfl)
    try simp only [Act.put, List.setIfInBounds_toArray, List.set_cons_zero, List.set_cons_succ]
    refine wpAnyH_take (i := 3) (oi := { dst := some 29, op := Op.load 76 (Operand.tmp 28), type := 76, pos := "frag.go:53", after := #[{ on := 2, ground := Ground.data }], guard := none }) (v := ?pbv3) rfl (by kernel_rfl) (by kernel_rfl) (by kernel_rfl) (fun _ _ _ h => h) (Or.inl ⟨by rfl, ?pbh3⟩) (by assumption) ?pbr3
    case pbh3 => ((intro w hSw; (try dsimp only at hSw); go_simp); try with_reducible rfl)
    try simp only [Act.put, List.setIfInBounds_toArray, List.set_cons_zero, List.set_cons_succ]
    refine wpAnyH_take (i := 4) (oi := { dst := some 30, op := Op.move (Operand.tmp 0), type := 75, pos := "frag.go:53", after := #[], guard := none }) (v := ?pbv4) rfl (by kernel_rfl) (by kernel_rfl) (by kernel_rfl) (fun _ _ _ h => h) (Or.inl ⟨by rfl, ?pbh4⟩) (by assumption) ?pbr4
    case pbh4 => ((intro w hSw; (try dsimp only at hSw); go_simp); try with_reducible rfl)
    try simp only [Act.put, List.setIfInBounds_toArray, List.set_cons_zero, List.set_cons_succ]
    refine wpAnyH_take (i := 5) (oi := { dst := some 31, op := Op.nilCheck (Operand.tmp 30), type := 0, pos := "frag.go:53", after := #[{ on := 4, ground := Ground.data }], guard := none }) (v := ?pbv5) rfl (by kernel_rfl) (by kernel_rfl) (by kernel_rfl) (fun _ _ _ h => h) (Or.inl ⟨by rfl, ?pbh5⟩) (by assumption) ?pbr5
    case pbh5 => ((intro w hSw; (try dsimp only at hSw); go_simp); try with_reducible rfl)
    try simp only [Act.put, List.setIfInBounds_toArray, List.set_cons_zero, List.set_cons_succ]
    refine wpAnyH_take (i := 6) (oi := { dst := some 32, op := Op.fieldAddr 78 (Operand.tmp 31) 5, type := 0, pos := "frag.go:53", after := #[{ on := 5, ground := Ground.data }], guard := none }) (v := ?pbv6) rfl (by kernel_rfl) (by kernel_rfl) (by kernel_rfl) (fun _ _ _ h => h) (Or.inl ⟨by rfl, ?pbh6⟩) (by assumption) ?pbr6
    case pbh6 => ((intro w hSw; (try dsimp only at hSw); go_simp); try with_reducible rfl)
    try simp only [Act.put, List.setIfInBounds_toArray, List.set_cons_zero, List.set_cons_succ]
    refine wpAnyH_take (i := 7) (oi := { dst := some 33, op := Op.load 9 (Operand.tmp 32), type := 9, pos := "frag.go:53", after := #[{ on := 6, ground := Ground.data }], guard := none }) (v := ?pbv7) rfl (by kernel_rfl) (by kernel_rfl) (by kernel_rfl) (fun _ _ _ h => h) (Or.inl ⟨by rfl, ?pbh7⟩) (by assumption) ?pbr7
    case pbh7 => ((intro w hSw; (try dsimp only at hSw); go_simp); try with_reducible rfl)
    try simp only [Act.put, List.setIfInBounds_toArray, List.set_cons_zero, List.set_cons_succ]
    refine wpAnyH_take (i := 8) (oi := { dst := some 34, op := Op.move (Operand.tmp 4), type := 3, pos := "frag.go:53", after := #[], guard := none }) (v := ?pbv8) rfl (by kernel_rfl) (by kernel_rfl) (by kernel_rfl) (fun _ _ _ h => h) (Or.inl ⟨by rfl, ?pbh8⟩) (by assumption) ?pbr8
    case pbh8 => ((intro w hSw; (try dsimp only at hSw); go_simp); try with_reducible rfl)
    try simp only [Act.put, List.setIfInBounds_toArray, List.set_cons_zero, List.set_cons_succ]
    refine wpAnyH_ready (rs := [9]) (by kernel_rfl) (by simp) ?_
    refine AllReadyH.cons (o := { dst := none, op := Op.mapUpdate 76 (Operand.tmp 29) (Operand.tmp 33) (Operand.tmp 34), type := 0, pos := "frag.go:53", after := #[{ on := 3, ground := Ground.data }, { on := 7, ground := Ground.data }, { on := 8, ground := Ground.data }, { on := 0, ground := Ground.phase }, { on := 1, ground := Ground.phase }, { on := 2, ground := Ground.phase }, { on := 3, ground := Ground.phase }, { on := 4, ground := Ground.phase }, { on := 5, ground := Ground.phase }, { on := 6, ground := Ground.phase }, { on := 7, ground := Ground.phase }, { on := 8, ground := Ground.phase }], guard := none }) rfl (fun K hK => ?_) AllReadyH.nil
    (refine step_mapset KStr Try.underlying76 rfl (.tmp 29) (.tmp 33) (.tmp 34) (Or.inl rfl) mb am rfl HM1.out name rfl n rfl ?_); intro w5 hm5 hg5; have H5 := hid (HN2.out w5 hm5 hg5); refine hK.out _ _ H5.out.1.head (fun hHeld => ?_)
    clear hK K
    try simp only [Act.put, List.setIfInBounds_toArray, List.set_cons_zero, List.set_cons_succ]
    refine wpAnyH_done (by kernel_rfl) ?_ _
    go_wp2_with fail
    go_meet
    exact ⟨rfl, H5.out⟩
  case rest =>
    obtain ⟨rfl, h5, ht5⟩ := hcut
    have H5 := hid h5
    have HT5 := hid ht5
    obtain ⟨d0, d1, d2, d3, d4, hfl5⟩ := h5.cells
    have hz5 := h5.hz
    rw [HPV.out] at d0
    have HP7 : Hid (wc.ownsRow base 50 4 (.slice pv n cv) n (X.ps.flatMap PtR.cells)) := by have := h5.is.parts; rw [HPV.out, HNN.out] at this; exact this
    have HVC : Hid (X.pv.ownBlock = (Value.slice pv n cv).ownBlock) := by unfold Hid; rw [HPV.out]
    have HSL : Hid (∀ o : Obj, FL m 5 file line name (wc.alloc o).drew) := fun o => (hfl5.blk (Below.heap_alloc wc o m h5.lt)).drew
    have HH0 : Hid (FL m 5 file line name wc.drew) := hfl5.drew
    have d0L : ∀ o : Obj, (wc.alloc o).cell? ⟨m, 0, none⟩ = some (.slice pv n cv) := fun o => (World.cell?_of_block (a := ⟨m, 0, none⟩) (Below.heap_alloc wc o m h5.lt)).trans d0
    have a5 : ∀ w' : World, FL m 5 file line name w' → w'.cell? ⟨m, 5, none⟩ = some (.int .i64 file) := fun _ h => h.f
    have a6 : ∀ w' : World, FL m 5 file line name w' → w'.cell? ⟨m, 6, none⟩ = some (.int .i64 line) := fun _ h => h.l
    have a8 : ∀ w' : World, FL m 5 file line name w' → w'.cell? ⟨m, 7, none⟩ = some (.string name) := fun _ h => h.n
    clear h5 hfl5 d1 d2 d3 d4 c0 c1 c2 c3 c4 c7 a3 a7 alk b3 b7 hHeld0 hHeld1
    go_upto_region 5 with (fail)
    go_cut [4] (fun nv wx => nv = .int .i64 (n : Nat) ∧ ∃ v', CIsN wx base m mb { X with pv := v', ps := X.ps ++ [⟨name, file, line, ⟨none, 0, []⟩⟩] } (X.ps.map PtR.name ++ [name]) file line name ∧ TrnP isPM base wc wx)
    case first =>
      refine wp_region_held_drew (S := FL m 5 file line name) (by kernel_rfl) HH0.out (fun hHeld => ?_)
      refine wpAnyH_take (i := 0) (oi := { dst := some 35, op := Op.move (Operand.tmp 0), type := 75, pos := "frag.go:54", after := #[], guard := none }) (v := ?pcv0) rfl (by kernel_rfl) (by kernel_rfl) (by kernel_rfl) (fun _ _ _ h => h) (Or.inl ⟨by rfl, ?pch0⟩) (by assumption) ?pcr0
      case pch0 => ((intro w hSw; (try dsimp only at hSw); go_simp); try with_reducible rfl)
      try simp only [Act.put, List.setIfInBounds_toArray, List.set_cons_zero, List.set_cons_succ]
      refine wpAnyH_take (i := 1) (oi := { dst := some 36, op := Op.move (Operand.tmp 0), type := 75, pos := "frag.go:54", after := #[], guard := none }) (v := ?pcv1) rfl (by kernel_rfl) (by kernel_rfl) (by kernel_rfl) (fun _ _ _ h => h) (Or.inl ⟨by rfl, ?pch1⟩) (by assumption) ?pcr1
      case pch1 => ((intro w hSw; (try dsimp only at hSw); go_simp); try with_reducible rfl)
      try simp only [Act.put, List.setIfInBounds_toArray, List.set_cons_zero, List.set_cons_succ]
      refine wpAnyH_take (i := 2) (oi := { dst := some 37, op := Op.nilCheck (Operand.tmp 36), type := 0, pos := "frag.go:54", after := #[{ on := 1, ground := Ground.data }], guard := none }) (v := ?pcv2) rfl (by kernel_rfl) (by kernel_rfl) (by kernel_rfl) (fun _ _ _ h => h) (Or.inl ⟨by rfl, ?pch2⟩) (by assumption) ?pcr2
      case pch2 => ((intro w hSw; (try dsimp only at hSw); go_simp); try with_reducible rfl)
      try simp only [Act.put, List.setIfInBounds_toArray, List.set_cons_zero, List.set_cons_succ]
      refine wpAnyH_take (i := 3) (oi := { dst := some 38, op := Op.fieldAddr 78 (Operand.tmp 37) 0, type := 0, pos := "frag.go:54", after := #[{ on := 2, ground := Ground.data }], guard := none }) (v := ?pcv3) rfl (by kernel_rfl) (by kernel_rfl) (by kernel_rfl) (fun _ _ _ h => h) (Or.inl ⟨by rfl, ?pch3⟩) (by assumption) ?pcr3
      case pch3 => ((intro w hSw; (try dsimp only at hSw); go_simp); try with_reducible rfl)
      try simp only [Act.put, List.setIfInBounds_toArray, List.set_cons_zero, List.set_cons_succ]
      refine wpAnyH_take (i := 4) (oi := { dst := some 39, op := Op.fieldAddr 32 (Operand.tmp 38) 0, type := 0, pos := "frag.go:54", after := #[{ on := 3, ground := Ground.data }], guard := none }) (v := ?pcv4) rfl (by kernel_rfl) (by kernel_rfl) (by kernel_rfl) (fun _ _ _ h => h) (Or.inl ⟨by rfl, ?pch4⟩) (by assumption) ?pcr4
      case pch4 => ((intro w hSw; (try dsimp only at hSw); go_simp); try with_reducible rfl)
      try simp only [Act.put, List.setIfInBounds_toArray, List.set_cons_zero, List.set_cons_succ]
      refine wpAnyH_take (i := 6) (oi := { dst := some 41, op := Op.move (Operand.tmp 0), type := 75, pos := "frag.go:54", after := #[], guard := none }) (v := ?pcv6) rfl (by kernel_rfl) (by kernel_rfl) (by kernel_rfl) (fun _ _ _ h => h) (Or.inl ⟨by rfl, ?pch6⟩) (by assumption) ?pcr6
      case pch6 => ((intro w hSw; (try dsimp only at hSw); go_simp); try with_reducible rfl)
      try simp only [Act.put, List.setIfInBounds_toArray, List.set_cons_zero, List.set_cons_succ]
      refine wpAnyH_take (i := 7) (oi := { dst := some 42, op := Op.nilCheck (Operand.tmp 41), type := 0, pos := "frag.go:54", after := #[{ on := 6, ground := Ground.data }], guard := none }) (v := ?pcv7) rfl (by kernel_rfl) (by kernel_rfl) (by kernel_rfl) (fun _ _ _ h => h) (Or.inl ⟨by rfl, ?pch7⟩) (by assumption) ?pcr7
      case pch7 => ((intro w hSw; (try dsimp only at hSw); go_simp); try with_reducible rfl)
      try simp only [Act.put, List.setIfInBounds_toArray, List.set_cons_zero, List.set_cons_succ]
      refine wpAnyH_take (i := 8) (oi := { dst := some 43, op := Op.fieldAddr 78 (Operand.tmp 42) 5, type := 0, pos := "frag.go:54", after := #[{ on := 7, ground := Ground.data }], guard := none }) (v := ?pcv8) rfl (by kernel_rfl) (by kernel_rfl) (by kernel_rfl) (fun _ _ _ h => h) (Or.inl ⟨by rfl, ?pch8⟩) (by assumption) ?pcr8
      case pch8 => ((intro w hSw; (try dsimp only at hSw); go_simp); try with_reducible rfl)
      try simp only [Act.put, List.setIfInBounds_toArray, List.set_cons_zero, List.set_cons_succ]
      refine wpAnyH_take (i := 9) (oi := { dst := some 44, op := Op.load 9 (Operand.tmp 43), type := 9, pos := "frag.go:54", after := #[{ on := 8, ground := Ground.data }], guard := none }) (v := ?pcv9) rfl (by kernel_rfl) (by kernel_rfl) (by kernel_rfl) (fun _ _ _ h => h) (Or.inl ⟨by rfl, ?pch9⟩) (by assumption) ?pcr9
      case pch9 => ((intro w hSw; (try dsimp only at hSw); go_simp); try with_reducible rfl)
      try simp only [Act.put, List.setIfInBounds_toArray, List.set_cons_zero, List.set_cons_succ]
      refine wpAnyH_take (i := 10) (oi := { dst := some 45, op := Op.move (Operand.tmp 0), type := 75, pos := "frag.go:54", after := #[], guard := none }) (v := ?pcv10) rfl (by kernel_rfl) (by kernel_rfl) (by kernel_rfl) (fun _ _ _ h => h) (Or.inl ⟨by rfl, ?pch10⟩) (by assumption) ?pcr10
      case pch10 => ((intro w hSw; (try dsimp only at hSw); go_simp); try with_reducible rfl)
      try simp only [Act.put, List.setIfInBounds_toArray, List.set_cons_zero, List.set_cons_succ]
      refine wpAnyH_take (i := 11) (oi := { dst := some 46, op := Op.nilCheck (Operand.tmp 45), type := 0, pos := "frag.go:54", after := #[{ on := 10, ground := Ground.data }], guard := none }) (v := ?pcv11) rfl (by kernel_rfl) (by kernel_rfl) (by kernel_rfl) (fun _ _ _ h => h) (Or.inl ⟨by rfl, ?pch11⟩) (by assumption) ?pcr11
      case pch11 => ((intro w hSw; (try dsimp only at hSw); go_simp); try with_reducible rfl)
      try simp only [Act.put, List.setIfInBounds_toArray, List.set_cons_zero, List.set_cons_succ]
      refine wpAnyH_take (i := 12) (oi := { dst := some 47, op := Op.fieldAddr 78 (Operand.tmp 46) 3, type := 0, pos := "frag.go:54", after := #[{ on := 11, ground := Ground.data }], guard := none }) (v := ?pcv12) rfl (by kernel_rfl) (by kernel_rfl) (by kernel_rfl) (fun _ _ _ h => h) (Or.inl ⟨by rfl, ?pch12⟩) (by assumption) ?pcr12
      case pch12 => ((intro w hSw; (try dsimp only at hSw); go_simp); try with_reducible rfl)
      try simp only [Act.put, List.setIfInBounds_toArray, List.set_cons_zero, List.set_cons_succ]
      refine wpAnyH_take (i := 13) (oi := { dst := some 48, op := Op.load 3 (Operand.tmp 47), type := 3, pos := "frag.go:54", after := #[{ on := 12, ground := Ground.data }], guard := none }) (v := ?pcv13) rfl (by kernel_rfl) (by kernel_rfl) (by kernel_rfl) (fun _ _ _ h => h) (Or.inl ⟨by rfl, ?pch13⟩) (by assumption) ?pcr13
      case pch13 => ((intro w hSw; (try dsimp only at hSw); go_simp); try with_reducible rfl)
      try simp only [Act.put, List.setIfInBounds_toArray, List.set_cons_zero, List.set_cons_succ]
      refine wpAnyH_take (i := 14) (oi := { dst := some 49, op := Op.move (Operand.tmp 0), type := 75, pos := "frag.go:54", after := #[], guard := none }) (v := ?pcv14) rfl (by kernel_rfl) (by kernel_rfl) (by kernel_rfl) (fun _ _ _ h => h) (Or.inl ⟨by rfl, ?pch14⟩) (by assumption) ?pcr14
      case pch14 => ((intro w hSw; (try dsimp only at hSw); go_simp); try with_reducible rfl)
      try simp only [Act.put, List.setIfInBounds_toArray, List.set_cons_zero, List.set_cons_succ]
      refine wpAnyH_take (i := 15) (oi := { dst := some 50, op := Op.nilCheck (Operand.tmp 49), type := 0, pos := "frag.go:54", after := #[{ on := 14, ground := Ground.data }], guard := none }) (v := ?pcv15) rfl (by kernel_rfl) (by kernel_rfl) (by kernel_rfl) (fun _ _ _ h => h) (Or.inl ⟨by rfl, ?pch15⟩) (by assumption) ?pcr15
      case pch15 => ((intro w hSw; (try dsimp only at hSw); go_simp); try with_reducible rfl)
      try simp only [Act.put, List.setIfInBounds_toArray, List.set_cons_zero, List.set_cons_succ]
      refine wpAnyH_take (i := 16) (oi := { dst := some 51, op := Op.fieldAddr 78 (Operand.tmp 50) 4, type := 0, pos := "frag.go:54", after := #[{ on := 15, ground := Ground.data }], guard := none }) (v := ?pcv16) rfl (by kernel_rfl) (by kernel_rfl) (by kernel_rfl) (fun _ _ _ h => h) (Or.inl ⟨by rfl, ?pch16⟩) (by assumption) ?pcr16
      case pch16 => ((intro w hSw; (try dsimp only at hSw); go_simp); try with_reducible rfl)
      try simp only [Act.put, List.setIfInBounds_toArray, List.set_cons_zero, List.set_cons_succ]
      refine wpAnyH_take (i := 17) (oi := { dst := some 52, op := Op.load 3 (Operand.tmp 51), type := 3, pos := "frag.go:54", after := #[{ on := 16, ground := Ground.data }], guard := none }) (v := ?pcv17) rfl (by kernel_rfl) (by kernel_rfl) (by kernel_rfl) (fun _ _ _ h => h) (Or.inl ⟨by rfl, ?pch17⟩) (by assumption) ?pcr17
      case pch17 => ((intro w hSw; (try dsimp only at hSw); go_simp); try with_reducible rfl)
      try simp only [Act.put, List.setIfInBounds_toArray, List.set_cons_zero, List.set_cons_succ]
      refine wpAnyH_take (i := 18) (oi := { dst := some 53, op := Op.build 50 #[(0, Operand.tmp 44), (1, Operand.tmp 48), (2, Operand.tmp 52)], type := 50, pos := "frag.go:54", after := #[{ on := 9, ground := Ground.data }, { on := 13, ground := Ground.data }, { on := 17, ground := Ground.data }], guard := none }) (v := ?pcv18) rfl (by kernel_rfl) (by kernel_rfl) (by kernel_rfl) (fun _ _ _ h => h) (Or.inl ⟨by rfl, ?pch18⟩) (by assumption) ?pcr18
      case pch18 => ((intro w hSw; (try dsimp only at hSw); go_simp); try with_reducible rfl)
      try simp only [Act.put, List.setIfInBounds_toArray, List.set_cons_zero, List.set_cons_succ]
      refine wpAnyH_ready (rs := [5, 19]) (by kernel_rfl) (by simp) ?_
      refine AllReadyH.cons (o := { dst := some 40, op := Op.load 28 (Operand.tmp 39), type := 28, pos := "frag.go:54", after := #[{ on := 4, ground := Ground.data }], guard := none }) rfl (fun K hK => ?_) ?_
      · go_simp; refine hK.out _ _ (by first | exact HH0.out | exact HSL.out _) (fun hHeld => ?_)
        clear hK K
        try simp only [Act.put, List.setIfInBounds_toArray, List.set_cons_zero, List.set_cons_succ]
        refine wpAnyH_ready (rs := [19]) (by kernel_rfl) (by simp) ?_
        refine AllReadyH.cons (o := { dst := some 54, op := Op.buildSlice 28 1 #[(0, Operand.tmp 53)], type := 28, pos := "frag.go:54", after := #[{ on := 18, ground := Ground.data }], guard := none }) rfl (fun K hK => ?_) AllReadyH.nil
        go_simp; refine hK.out _ _ (HSL.out _) (fun hHeld => ?_)
        clear hK K
        try simp only [Act.put, List.setIfInBounds_toArray, List.set_cons_zero, List.set_cons_succ]
        refine wpAnyH_ready (rs := [20]) (by kernel_rfl) (by simp) ?_
        refine AllReadyH.cons (o := { dst := some 55, op := Op.call { callee := Callee.builtin Builtin.append, args := #[Operand.tmp 40, Operand.tmp 54], argTypes := #[28, 28] }, type := 28, pos := "frag.go:54", after := #[{ on := 5, ground := Ground.data }, { on := 19, ground := Ground.data }], guard := none }) rfl (fun K hK => ?_) AllReadyH.nil
        (refine step_app EPart rfl (.tmp 40) (.tmp 54) rfl base (.slice pv n cv) n (X.ps.flatMap PtR.cells) rfl (HP7.out.alloc _) _ 1 1 (PtR.cells ⟨name, file, line, ⟨none, 0, []⟩⟩) rfl rfl (row_newAt _ _ _ _ rfl) (ptr_ones _) (by unfold maxLen; omega) (by omega) (by simp; omega) ?_); intro vp' w8 ho8 hg8 hs8; obtain ⟨p8, c8, rfl, -⟩ := own_shape ho8; have HO8 := hid ho8; have HG8 := hid hg8; clear ho8 hg8 hs8; obtain ⟨hh8, ha8⟩ := H5.out.appPart (by rw [HVC.out]; exact HG8.out); have HA8 := hid ha8; have zf0 := frozen_of_row _ _ 0 _ _ hh8; have z0 := cell_of_row _ _ 0 _ _ _ hh8; clear hh8 ha8; refine hK.out _ _ HA8.out (fun hHeld => ?_)
        clear hK K
        try simp only [Act.put, List.setIfInBounds_toArray, List.set_cons_zero, List.set_cons_succ]
        refine wpAnyH_take (i := 21) (oi := { dst := some 56, op := Op.nilCheck (Operand.tmp 35), type := 0, pos := "frag.go:54", after := #[{ on := 0, ground := Ground.data }, { on := 0, ground := Ground.phase }, { on := 1, ground := Ground.phase }, { on := 2, ground := Ground.phase }, { on := 3, ground := Ground.phase }, { on := 4, ground := Ground.phase }, { on := 5, ground := Ground.phase }, { on := 6, ground := Ground.phase }, { on := 7, ground := Ground.phase }, { on := 8, ground := Ground.phase }, { on := 9, ground := Ground.phase }, { on := 10, ground := Ground.phase }, { on := 11, ground := Ground.phase }, { on := 12, ground := Ground.phase }, { on := 13, ground := Ground.phase }, { on := 14, ground := Ground.phase }, { on := 15, ground := Ground.phase }, { on := 16, ground := Ground.phase }, { on := 17, ground := Ground.phase }, { on := 18, ground := Ground.phase }, { on := 19, ground := Ground.phase }, { on := 20, ground := Ground.phase }], guard := none }) (v := ?pcav21) rfl (by kernel_rfl) (by kernel_rfl) (by kernel_rfl) (fun _ _ _ h => h) (Or.inl ⟨by rfl, ?pcah21⟩) (by assumption) ?pcar21
        case pcah21 => ((intro w hSw; (try dsimp only at hSw); go_simp); try with_reducible rfl)
        try simp only [Act.put, List.setIfInBounds_toArray, List.set_cons_zero, List.set_cons_succ]
        refine wpAnyH_take (i := 22) (oi := { dst := some 57, op := Op.fieldAddr 78 (Operand.tmp 56) 0, type := 0, pos := "frag.go:54", after := #[{ on := 21, ground := Ground.data }, { on := 0, ground := Ground.phase }, { on := 1, ground := Ground.phase }, { on := 2, ground := Ground.phase }, { on := 3, ground := Ground.phase }, { on := 4, ground := Ground.phase }, { on := 5, ground := Ground.phase }, { on := 6, ground := Ground.phase }, { on := 7, ground := Ground.phase }, { on := 8, ground := Ground.phase }, { on := 9, ground := Ground.phase }, { on := 10, ground := Ground.phase }, { on := 11, ground := Ground.phase }, { on := 12, ground := Ground.phase }, { on := 13, ground := Ground.phase }, { on := 14, ground := Ground.phase }, { on := 15, ground := Ground.phase }, { on := 16, ground := Ground.phase }, { on := 17, ground := Ground.phase }, { on := 18, ground := Ground.phase }, { on := 19, ground := Ground.phase }, { on := 20, ground := Ground.phase }], guard := none }) (v := ?pcav22) rfl (by kernel_rfl) (by kernel_rfl) (by kernel_rfl) (fun _ _ _ h => h) (Or.inl ⟨by rfl, ?pcah22⟩) (by assumption) ?pcar22
        case pcah22 => ((intro w hSw; (try dsimp only at hSw); go_simp); try with_reducible rfl)
        try simp only [Act.put, List.setIfInBounds_toArray, List.set_cons_zero, List.set_cons_succ]
        refine wpAnyH_take (i := 23) (oi := { dst := some 58, op := Op.fieldAddr 32 (Operand.tmp 57) 0, type := 0, pos := "frag.go:54", after := #[{ on := 22, ground := Ground.data }, { on := 0, ground := Ground.phase }, { on := 1, ground := Ground.phase }, { on := 2, ground := Ground.phase }, { on := 3, ground := Ground.phase }, { on := 4, ground := Ground.phase }, { on := 5, ground := Ground.phase }, { on := 6, ground := Ground.phase }, { on := 7, ground := Ground.phase }, { on := 8, ground := Ground.phase }, { on := 9, ground := Ground.phase }, { on := 10, ground := Ground.phase }, { on := 11, ground := Ground.phase }, { on := 12, ground := Ground.phase }, { on := 13, ground := Ground.phase }, { on := 14, ground := Ground.phase }, { on := 15, ground := Ground.phase }, { on := 16, ground := Ground.phase }, { on := 17, ground := Ground.phase }, { on := 18, ground := Ground.phase }, { on := 19, ground := Ground.phase }, { on := 20, ground := Ground.phase }], guard := none }) (v := ?pcav23) rfl (by kernel_rfl) (by kernel_rfl) (by kernel_rfl) (fun _ _ _ h => h) (Or.inl ⟨by rfl, ?pcah23⟩) (by assumption) ?pcar23
        case pcah23 => ((intro w hSw; (try dsimp only at hSw); go_simp); try with_reducible rfl)
        try simp only [Act.put, List.setIfInBounds_toArray, List.set_cons_zero, List.set_cons_succ]
        refine wpAnyH_ready (rs := [24]) (by kernel_rfl) (by simp) ?_
        refine AllReadyH.cons (o := { dst := none, op := Op.store 28 (Operand.tmp 58) (Operand.tmp 55), type := 0, pos := "frag.go:54", after := #[{ on := 23, ground := Ground.data }, { on := 20, ground := Ground.data }, { on := 20, ground := Ground.chain }, { on := 0, ground := Ground.phase }, { on := 1, ground := Ground.phase }, { on := 2, ground := Ground.phase }, { on := 3, ground := Ground.phase }, { on := 4, ground := Ground.phase }, { on := 5, ground := Ground.phase }, { on := 6, ground := Ground.phase }, { on := 7, ground := Ground.phase }, { on := 8, ground := Ground.phase }, { on := 9, ground := Ground.phase }, { on := 10, ground := Ground.phase }, { on := 11, ground := Ground.phase }, { on := 12, ground := Ground.phase }, { on := 13, ground := Ground.phase }, { on := 14, ground := Ground.phase }, { on := 15, ground := Ground.phase }, { on := 16, ground := Ground.phase }, { on := 17, ground := Ground.phase }, { on := 18, ground := Ground.phase }, { on := 19, ground := Ground.phase }, { on := 20, ground := Ground.phase }], guard := none }) rfl (fun K hK => ?_) AllReadyH.nil
        go_simp; refine hK.out _ _ (HA8.out.set (by decide) _) (fun hHeld => ?_)
        clear hK K
        try simp only [Act.put, List.setIfInBounds_toArray, List.set_cons_zero, List.set_cons_succ]
        refine wpAnyH_done (by kernel_rfl) ?_ _
        go_wp2_with fail
        have hfin := H5.out.finPart ⟨name, file, line, ⟨none, 0, []⟩⟩ rfl (by rw [HNN.out]; exact HO8.out) (by rw [HVC.out]; exact HG8.out)
        go_meet
        exact ⟨rfl, _, hfin⟩
      refine AllReadyH.cons (o := { dst := some 54, op := Op.buildSlice 28 1 #[(0, Operand.tmp 53)], type := 28, pos := "frag.go:54", after := #[{ on := 18, ground := Ground.data }], guard := none }) rfl (fun K hK => ?_) AllReadyH.nil
      go_simp; refine hK.out _ _ (HSL.out _) (fun hHeld => ?_)
      clear hK K
      try simp only [Act.put, List.setIfInBounds_toArray, List.set_cons_zero, List.set_cons_succ]
      refine wpAnyH_ready (rs := [5]) (by kernel_rfl) (by simp) ?_
      refine AllReadyH.cons (o := { dst := some 40, op := Op.load 28 (Operand.tmp 39), type := 28, pos := "frag.go:54", after := #[{ on := 4, ground := Ground.data }], guard := none }) rfl (fun K hK => ?_) AllReadyH.nil
      go_simp; refine hK.out _ _ (by first | exact HH0.out | exact HSL.out _) (fun hHeld => ?_)
      clear hK K
      try simp only [Act.put, List.setIfInBounds_toArray, List.set_cons_zero, List.set_cons_succ]
      refine wpAnyH_ready (rs := [20]) (by kernel_rfl) (by simp) ?_
      refine AllReadyH.cons (o := { dst := some 55, op := Op.call { callee := Callee.builtin Builtin.append, args := #[Operand.tmp 40, Operand.tmp 54], argTypes := #[28, 28] }, type := 28, pos := "frag.go:54", after := #[{ on := 5, ground := Ground.data }, { on := 19, ground := Ground.data }], guard := none }) rfl (fun K hK => ?_) AllReadyH.nil
      (refine step_app EPart rfl (.tmp 40) (.tmp 54) rfl base (.slice pv n cv) n (X.ps.flatMap PtR.cells) rfl (HP7.out.alloc _) _ 1 1 (PtR.cells ⟨name, file, line, ⟨none, 0, []⟩⟩) rfl rfl (row_newAt _ _ _ _ rfl) (ptr_ones _) (by unfold maxLen; omega) (by omega) (by simp; omega) ?_); intro vp' w8 ho8 hg8 hs8; obtain ⟨p8, c8, rfl, -⟩ := own_shape ho8; have HO8 := hid ho8; have HG8 := hid hg8; clear ho8 hg8 hs8; obtain ⟨hh8, ha8⟩ := H5.out.appPart (by rw [HVC.out]; exact HG8.out); have HA8 := hid ha8; have zf0 := frozen_of_row _ _ 0 _ _ hh8; have z0 := cell_of_row _ _ 0 _ _ _ hh8; clear hh8 ha8; refine hK.out _ _ HA8.out (fun hHeld => ?_)
      clear hK K
      try simp only [Act.put, List.setIfInBounds_toArray, List.set_cons_zero, List.set_cons_succ]
      refine wpAnyH_take (i := 21) (oi := { dst := some 56, op := Op.nilCheck (Operand.tmp 35), type := 0, pos := "frag.go:54", after := #[{ on := 0, ground := Ground.data }, { on := 0, ground := Ground.phase }, { on := 1, ground := Ground.phase }, { on := 2, ground := Ground.phase }, { on := 3, ground := Ground.phase }, { on := 4, ground := Ground.phase }, { on := 5, ground := Ground.phase }, { on := 6, ground := Ground.phase }, { on := 7, ground := Ground.phase }, { on := 8, ground := Ground.phase }, { on := 9, ground := Ground.phase }, { on := 10, ground := Ground.phase }, { on := 11, ground := Ground.phase }, { on := 12, ground := Ground.phase }, { on := 13, ground := Ground.phase }, { on := 14, ground := Ground.phase }, { on := 15, ground := Ground.phase }, { on := 16, ground := Ground.phase }, { on := 17, ground := Ground.phase }, { on := 18, ground := Ground.phase }, { on := 19, ground := Ground.phase }, { on := 20, ground := Ground.phase }], guard := none }) (v := ?pcbv21) rfl (by kernel_rfl) (by kernel_rfl) (by kernel_rfl) (fun _ _ _ h => h) (Or.inl ⟨by rfl, ?pcbh21⟩) (by assumption) ?pcbr21
      case pcbh21 => ((intro w hSw; (try dsimp only at hSw); go_simp); try with_reducible rfl)
      try simp only [Act.put, List.setIfInBounds_toArray, List.set_cons_zero, List.set_cons_succ]
      refine wpAnyH_take (i := 22) (oi := { dst := some 57, op := Op.fieldAddr 78 (Operand.tmp 56) 0, type := 0, pos := "frag.go:54", after := #[{ on := 21, ground := Ground.data }, { on := 0, ground := Ground.phase }, { on := 1, ground := Ground.phase }, { on := 2, ground := Ground.phase }, { on := 3, ground := Ground.phase }, { on := 4, ground := Ground.phase }, { on := 5, ground := Ground.phase }, { on := 6, ground := Ground.phase }, { on := 7, ground := Ground.phase }, { on := 8, ground := Ground.phase }, { on := 9, ground := Ground.phase }, { on := 10, ground := Ground.phase }, { on := 11, ground := Ground.phase }, { on := 12, ground := Ground.phase }, { on := 13, ground := Ground.phase }, { on := 14, ground := Ground.phase }, { on := 15, ground := Ground.phase }, { on := 16, ground := Ground.phase }, { on := 17, ground := Ground.phase }, { on := 18, ground := Ground.phase }, { on := 19, ground := Ground.phase }, { on := 20, ground := Ground.phase }], guard := none }) (v := ?pcbv22) rfl (by kernel_rfl) (by kernel_rfl) (by kernel_rfl) (fun _ _ _ h => h) (Or.inl ⟨by rfl, ?pcbh22⟩) (by assumption) ?pcbr22
      case pcbh22 => ((intro w hSw; (try dsimp only at hSw); go_simp); try with_reducible rfl)
      try simp only [Act.put, List.setIfInBounds_toArray, List.set_cons_zero, List.set_cons_succ]
      refine wpAnyH_take (i := 23) (oi := { dst := some 58, op := Op.fieldAddr 32 (Operand.tmp 57) 0, type := 0, pos := "frag.go:54", after := #[{ on := 22, ground := Ground.data }, { on := 0, ground := Ground.phase }, { on := 1, ground := Ground.phase }, { on := 2, ground := Ground.phase }, { on := 3, ground := Ground.phase }, { on := 4, ground := Ground.phase }, { on := 5, ground := Ground.phase }, { on := 6, ground := Ground.phase }, { on := 7, ground := Ground.phase }, { on := 8, ground := Ground.phase }, { on := 9, ground := Ground.phase }, { on := 10, ground := Ground.phase }, { on := 11, ground := Ground.phase }, { on := 12, ground := Ground.phase }, { on := 13, ground := Ground.phase }, { on := 14, ground := Ground.phase }, { on := 15, ground := Ground.phase }, { on := 16, ground := Ground.phase }, { on := 17, ground := Ground.phase }, { on := 18, ground := Ground.phase }, { on := 19, ground := Ground.phase }, { on := 20, ground := Ground.phase }], guard := none }) (v := ?pcbv23) rfl (by kernel_rfl) (by kernel_rfl) (by kernel_rfl) (fun _ _ _ h => h) (Or.inl ⟨by rfl, ?pcbh23⟩) (by assumption) ?pcbr23
      case pcbh23 => ((intro w hSw; (try dsimp only at hSw); go_simp); try with_reducible rfl)
      try simp only [Act.put, List.setIfInBounds_toArray, List.set_cons_zero, List.set_cons_succ]
      refine wpAnyH_ready (rs := [24]) (by kernel_rfl) (by simp) ?_
      refine AllReadyH.cons (o := { dst := none, op := Op.store 28 (Operand.tmp 58) (Operand.tmp 55), type := 0, pos := "frag.go:54", after := #[{ on := 23, ground := Ground.data }, { on := 20, ground := Ground.data }, { on := 20, ground := Ground.chain }, { on := 0, ground := Ground.phase }, { on := 1, ground := Ground.phase }, { on := 2, ground := Ground.phase }, { on := 3, ground := Ground.phase }, { on := 4, ground := Ground.phase }, { on := 5, ground := Ground.phase }, { on := 6, ground := Ground.phase }, { on := 7, ground := Ground.phase }, { on := 8, ground := Ground.phase }, { on := 9, ground := Ground.phase }, { on := 10, ground := Ground.phase }, { on := 11, ground := Ground.phase }, { on := 12, ground := Ground.phase }, { on := 13, ground := Ground.phase }, { on := 14, ground := Ground.phase }, { on := 15, ground := Ground.phase }, { on := 16, ground := Ground.phase }, { on := 17, ground := Ground.phase }, { on := 18, ground := Ground.phase }, { on := 19, ground := Ground.phase }, { on := 20, ground := Ground.phase }], guard := none }) rfl (fun K hK => ?_) AllReadyH.nil
      go_simp; refine hK.out _ _ (HA8.out.set (by decide) _) (fun hHeld => ?_)
      clear hK K
      try simp only [Act.put, List.setIfInBounds_toArray, List.set_cons_zero, List.set_cons_succ]
      refine wpAnyH_done (by kernel_rfl) ?_ _
      go_wp2_with fail
      have hfin := H5.out.finPart ⟨name, file, line, ⟨none, 0, []⟩⟩ rfl (by rw [HNN.out]; exact HO8.out) (by rw [HVC.out]; exact HG8.out)
      go_meet
      exact ⟨rfl, _, hfin⟩
    case rest =>
      obtain ⟨rfl, v', h9, ht9⟩ := hcut
      have H9 := hid h9
      have HT9 := hid ht9
      obtain ⟨g9, c9, e9, hge9, hlt9, hcap9, hcm9⟩ := own_block h9.is.parts (by show 0 < (X.ps ++ [_]).length; simp)
      have e9 : v' = .slice (some ⟨g9, 0, none⟩) (X.ps ++ [(⟨name, file, line, ⟨none, 0, []⟩⟩ : PtR)]).length c9 := e9
      have hl9 : (X.ps ++ [(⟨name, file, line, ⟨none, 0, []⟩⟩ : PtR)]).length = n + 1 := by simp [HNN.out]
      rw [hl9] at e9
      subst e9
      obtain ⟨x0, -⟩ := h9.cells
      have x0 : wc.cell? ⟨m, 0, none⟩ = some (.slice (some ⟨g9, 0, none⟩) (n + 1) c9) := x0
      have hnI : (n : Int) < (n + 1 : Nat) := by omega
      unfold maxLen at hcm9
      clear h9 ht9 d0 d0L a5 a6 a8 ht5 hcap9
      go_wp2_with fail
      go_ret2
      refine ⟨{ X with pv := .slice (some ⟨g9, 0, none⟩) (n + 1) c9, ps := X.ps ++ [⟨name, file, line, ⟨none, 0, []⟩⟩] }, n, g9, c9, rfl, ?_, ?_, ?_, HT5.out.trans HT9.out, rfl, rfl, rfl, rfl, rfl, rfl, .inr ⟨rfl, HNN.out.symm, HI.out⟩⟩
      · show Value.slice _ (n + 1) c9 = .slice _ (X.ps ++ [_]).length c9
        rw [hl9]
      · show n < (X.ps ++ [_]).length
        rw [hl9]; omega
      · have := H9.out
        rw [show X.ps.map PtR.name ++ [name] = (X.ps ++ [(⟨name, file, line, ⟨none, 0, []⟩⟩ : PtR)]).map PtR.name from by simp] at this
        exact this
theorem part_any (h : CIs W base m mb X file line name) (hn : X.ps.length ≤ 1000000000) :
    Calls Try.prog 37 #[.pointer (some ⟨m, 0, none⟩)] W (PartT W base m mb X file line name) := by
  cases e : idxO (X.ps.map PtR.name) name with
  | none => exact part_new h hn e
  | some i => exact part_old h hn e
end Go.Proofs.Ythlingholhjcnaa
namespace Go.Proofs.Ythlingholhjcnaa
open Go.RowKit
variable {W W' w w' : World} {base m mb : Nat} {X X' : FV} {file line : Int} {name : ByteArray} {nm : List ByteArray}

structure FP where
  ps : List Pt
  ms : List Mk
  gs : List Td
  fs : List Ft
def FV.pl (X : FV) : FP := ⟨X.ps.map PtR.pl, X.ms, X.gs, X.fs⟩
def FP.fault (S : FP) (file line er : Int) : FP := { S with fs := S.fs ++ [⟨file, line, er⟩] }
def FP.part (S : FP) (file line : Int) (name : ByteArray) : FP × Nat := match idxO (S.ps.map Pt.name) name with
  | some i => (S, i)
  | none => ({ S with ps := S.ps ++ [⟨name, file, line, []⟩] }, S.ps.length)
def addPc (x : Pc) (y : Pt) : Pt := { y with pieces := y.pieces ++ [x] }
def FP.put (S : FP) (file line : Int) (name : ByteArray) (x : Pc) (zero : Bool) : FP :=
  if !zero && (kindP name == 4) then S.fault file line 150
  else { (S.part file line name).1 with ps := (S.part file line name).1.ps.modify (S.part file line name).2 (addPc { x with file := file, line := line }) }
def pcsAt (S : FP) (i : Nat) : Nat := match S.ps[i]? with | some y => y.pieces.length | none => 0
def FP.mark (S : FP) (file line : Int) (name : ByteArray) (nm : ByteArray) (equ : Bool) (v : Vv) : FP :=
  if 255 < nm.size then S.fault file line 3
  else { (S.part file line name).1 with ms := S.ms ++ [⟨nm, file, line, ((S.part file line name).2 : Nat), (pcsAt (S.part file line name).1 (S.part file line name).2 : Nat), equ, v⟩] }
theorem names_pl (l : List PtR) : (l.map PtR.pl).map Pt.name = l.map PtR.name := by rw [List.map_map]; rfl
/-- What part tells, in plain words. -/
structure PartP (X X' : FV) (file line : Int) (name : ByteArray) (i : Nat) : Prop where
  ms : X'.ms = X.ms
  gs : X'.gs = X.gs
  fs : X'.fs = X.fs
  mv : X'.mv = X.mv
  gv : X'.gv = X.gv
  fv : X'.fv = X.fv
  ps : (X'.ps = X.ps ∧ idxO (X.ps.map PtR.name) name = some i) ∨ (X'.ps = X.ps ++ [⟨name, file, line, ⟨none, 0, []⟩⟩] ∧ i = X.ps.length ∧ idxO (X.ps.map PtR.name) name = none)
theorem PartP.plain {i : Nat} (h : PartP X X' file line name i) : X.pl.part file line name = (X'.pl, i) := by
  unfold FP.part FV.pl
  dsimp only
  rw [names_pl, h.ms, h.gs, h.fs]
  rcases h.ps with ⟨h1, h2⟩ | ⟨h1, h2, h3⟩
  · rw [h2, h1]
  · rw [h3, h1, h2]; simp [PtR.pl]
theorem PartP.mem {i j : Nat} (h : PartP X X' file line name i) {y : PtR} (hy : X'.ps[j]? = some y) : X.ps[j]? = some y ∨ y.pieces = ⟨none, 0, []⟩ := by
  rcases h.ps with ⟨h1, _⟩ | ⟨h1, _⟩
  · rw [h1] at hy; exact .inl hy
  · rw [h1] at hy
    rcases get_snoc hy with ⟨h2, _⟩ | ⟨_, rfl⟩
    · exact .inl h2
    · exact .inr rfl
theorem part_anyP (h : CIs W base m mb X file line name) (hn : X.ps.length ≤ 1000000000) :
    Calls Try.prog 37 #[.pointer (some ⟨m, 0, none⟩)] W fun e w' => ∃ (X' : FV) (i g c : Nat), e = .returned (.tuple #[.pointer (some ⟨g, i * 4, none⟩), .int .i64 (i : Nat)]) ∧ X'.pv = .slice (some ⟨g, 0, none⟩) X'.ps.length c ∧ i < X'.ps.length ∧ CIs w' base m mb X' file line name ∧ TrnP isPM base W w' ∧ PartP X X' file line name i := by
  refine (part_any h hn).mono ?_
  rintro e w' ⟨X', i, g, c, h1, h2, h3, h4, h5, q1, q2, q3, q4, q5, q6, q7⟩
  exact ⟨X', i, g, c, h1, h2, h3, h4, h5, ⟨q1, q2, q3, q4, q5, q6, q7⟩⟩
/-- The blocks that a unit owns. -/
def FV.fp (X : FV) (b : Nat) : Prop := X.pv.ownBlock = some b ∨ X.mv.ownBlock = some b ∨ X.gv.ownBlock = some b ∨ X.fv.ownBlock = some b ∨ ∃ (j : Nat) (y : PtR), X.ps[j]? = some y ∧ y.pieces.val.ownBlock = some b
theorem FIs.but (h : FIs W base X) (hk : ∀ b, X.fp b → W'.heap[b]? = W.heap[b]?) (hl : Lies base isOB W W') : FIs W' base X :=
  ⟨own_blk h.parts fun g hg => hk g (.inl hg), fun i y hy => own_blk (h.pcs i y hy) fun g hg => hk g (.inr (.inr (.inr (.inr ⟨i, y, hy, hg⟩)))), h.apart, fun y hy x hx => (h.pok y hy x hx).lies hl,
   own_blk h.marks fun g hg => hk g (.inr (.inl hg)), own_blk h.globals fun g hg => hk g (.inr (.inr (.inl hg))), own_blk h.faults fun g hg => hk g (.inr (.inr (.inr (.inl hg))))⟩
theorem FIs.fp_tag (h : FIs W base X) {q : Nat} (hq : X.fp q) : ∃ x, own3 x ∧ tagAt W q = some x := by
  rcases hq with e | e | e | e | ⟨j, y, hy, e⟩
  · exact ⟨_, .inl rfl, own_tag h.parts e⟩
  · exact ⟨_, .inr (.inr (.inl rfl)), own_tag h.marks e⟩
  · exact ⟨_, .inr (.inr (.inr (.inl rfl))), own_tag h.globals e⟩
  · exact ⟨_, .inr (.inr (.inr (.inr rfl))), own_tag h.faults e⟩
  · exact ⟨_, .inr (.inl rfl), own_tag (h.pcs j y hy) e⟩
theorem CIsN.but (h : CIsN W base m mb X nm file line name) (hk : ∀ b, (b = m ∨ b = mb ∨ X.fp b) → W'.heap[b]? = W.heap[b]?) (hl : Lies base isPT W W') : CIsN W' base m mb X nm file line name := by
  obtain ⟨am, ⟨es, c, e1, e2⟩, h2⟩ := h.mp
  exact ⟨(hk m (.inl rfl)).trans h.head, ⟨am, ⟨es, c, (hk mb (.inr (.inl rfl))).trans e1, e2⟩, h2⟩, h.is.but (fun b hb => hk b (.inr (.inr hb))) (hl.mono fun _ h => ob_pt h), h.ge⟩
/-- A box of a piece (or a mark) that was laid before part lies outside of what the maker owns. -/
theorem CIsN.box {X0 : FV} {W0 : World} (h : CIsN W base m mb X nm file line name) (h0 : FIs W0 base X0) {i : Nat} {name0 : ByteArray} (hp : PartP X0 X file line name0 i) {b x : Nat} (hb : W0.heap.size ≤ b) (ht : tagAt W b = some x) (hx : x = 64 + 1 ∨ x = 81 + 1) (hmk : x = 81 + 1 → X.mv.ownBlock ≠ some b) : ∀ q, (q = m ∨ q = mb ∨ X.fp q) → q ≠ b := by
  obtain ⟨am, hm, _⟩ := h.mp
  rintro q (rfl | rfl | hq) rfl
  · exact tag_ne h.tagM ht (by rcases hx with rfl | rfl <;> decide) rfl
  · exact tag_ne (map_tag hm) ht (by rcases hx with rfl | rfl <;> decide) rfl
  · rcases hq with e | e | e | e | ⟨j, y, hy, e⟩
    · exact tag_ne (own_tag h.is.parts e) ht (by rcases hx with rfl | rfl <;> decide) rfl
    · rcases hx with rfl | rfl
      · exact tag_ne (own_tag h.is.marks e) ht (by decide) rfl
      · exact hmk rfl e
    · exact tag_ne (own_tag h.is.globals e) ht (by rcases hx with rfl | rfl <;> decide) rfl
    · exact tag_ne (own_tag h.is.faults e) ht (by rcases hx with rfl | rfl <;> decide) rfl
    · rcases hp.mem hy with h1 | h1
      · have := own_lt (h0.pcs j y h1) q e; omega
      · rw [h1] at e; cases e
/-- Behind the append to a part's pieces, and the store into the part. -/
theorem CIsN.finPiece (h : CIsN W base m mb X nm file line name) {i : Nat} {y : PtR} (hi : X.ps[i]? = some y) {g c : Nat} (hpv : X.pv = .slice (some ⟨g, 0, none⟩) X.ps.length c) {o : Obj} {w8 : World} {p' : Option Addr} {c' : Nat} (x : PcR)
    (ho : w8.ownsRow base 64 11 (.slice p' (y.pieces.l.length + 1) c') (y.pieces.l.length + 1) (y.pieces.l.flatMap PcR.cells ++ x.cells)) (hg : (W.alloc o).drew.grownBy w8 y.pieces.val.ownBlock) (hs : Stayed (W.alloc o).drew y.pieces.val (.slice p' (y.pieces.l.length + 1) c')) (hx : PcOk W base x) :
    CIsN (w8.setCell ⟨g, i * 4 + 3, none⟩ (.slice p' (y.pieces.l.length + 1) c')) base m mb { X with ps := X.ps.set i { y with pieces := ⟨p', c', y.pieces.l ++ [x]⟩ } } nm file line name ∧ Trn base W (w8.setCell ⟨g, i * 4 + 3, none⟩ (.slice p' (y.pieces.l.length + 1) c')) := by
  have hA := h.below (alloc_below W o)
  have hg := grown_undrew hg
  have hyo := hA.is.pcs i y hi
  have hr : ∀ g, y.pieces.val.ownBlock = some g → tagAt (W.alloc o) g = some (64 + 1) ∧ base ≤ g := fun g hgg => ⟨own_tag hyo hgg, own_ge hyo g hgg⟩
  have hl : Lies base (fun y => y ≠ 64 + 1) (W.alloc o) w8 := Lies.grown hg hr (fun hn => hn rfl) hA.hz
  have ht : Trn base W w8 := (TrnP.below (alloc_below W o) h.hz).trans (TrnP.grown hg hr (by unfold isPT; decide) hA.hz)
  have hF := hA.is.addPiece hA.hz hi hpv x ho hg hs (hx.lies (Lies.below _ (alloc_below W o) h.hz))
  have htg : tagAt w8 g = some (50 + 1) := by
    have := own_tag hA.is.parts (g := g) (by rw [hpv]; rfl)
    exact tag_blk this (hl.tag g _ this (by decide))
  have hge : base ≤ g := own_ge hA.is.parts g (by rw [hpv]; rfl)
  have hz8 : base ≤ w8.heap.size := Nat.le_trans hA.hz hl.size
  obtain ⟨am, ⟨es, c1, e1, e2⟩, h2⟩ := hA.mp
  have hm8 : w8.heap[m]? = some (.cells (headC X mb file line name) 78 (0, 0)) := (hl.tag m _ hA.tagM (by decide)).trans hA.head
  have hmb8 : w8.heap[mb]? = some (.map es c1) := (hl.tag mb 0 (by unfold tagAt; rw [e1]; rfl) (by decide)).trans e1
  refine ⟨⟨(heap_setCell_other _ _ _ _ ?_).trans hm8, ⟨am, ⟨es, c1, (heap_setCell_other _ _ _ _ ?_).trans hmb8, e2⟩, h2⟩, hF, h.ge⟩, ht.trans (TrnP.grown (grown_set _ _ _) (fun b hb => by cases hb; exact ⟨htg, hge⟩) (by unfold isPT; decide) hz8)⟩
  · exact fun e => tag_ne (tag_row hm8) htg (by decide) e
  · exact fun e => tag_ne (show tagAt w8 mb = some 0 by unfold tagAt; rw [hmb8]; rfl) htg (by decide) e
theorem modify_set {α : Type} (f : α → α) (l : List α) (i : Nat) (y : α) (h : l[i]? = some y) : l.modify i f = l.set i (f y) := by
  apply List.ext_getElem?
  intro j
  rw [List.getElem?_modify, List.getElem?_set]
  by_cases e : i = j
  · subst e; obtain ⟨hl, he⟩ := List.getElem?_eq_some_iff.1 h; simp [hl, he]
  · simp [e]
theorem map_setPc {X : FV} {i : Nat} {y : PtR} (hi : X.ps[i]? = some y) (p' : Option Addr) (c' : Nat) (x : PcR) :
    (X.ps.set i { y with pieces := ⟨p', c', y.pieces.l ++ [x]⟩ }).map PtR.pl = (X.ps.map PtR.pl).modify i (addPc x.pl) := by
  rw [modify_set _ _ i y.pl (by rw [List.getElem?_map, hi]; rfl), List.map_set]
  congr 1
  simp [PtR.pl, addPc]
end Go.Proofs.Ythlingholhjcnaa
