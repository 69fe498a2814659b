/-
 The code's maker: mark.
 The code's small functions: first, clone.
 The code's maker: stmt: instructions, alignments, bytes, sections, names' values.
 The code's maker: stmt, more kinds.
 The code's maker: stmt: sections; values compared.
-/
import Derived.Test.YthlingholhjcnaaJJ2
namespace Go.Proofs.Ythlingholhjcnaa
open Go.RowKit
variable {W W' w w' : World} {base m mb : Nat} {X X' : FV} {file line : Int} {name : ByteArray} {nm : List ByteArray}
def BxM (bx : Nat) (x : Mk) (w' : World) : Prop := w'.heap[bx]? = some (.cells x.cells.toArray 81 (0, 0))
theorem boxm_cells {bx : Nat} {x : Mk} (h : BxM bx x W) : W.cell? ⟨bx, 0, none⟩ = some (.string x.name) ∧ W.cell? ⟨bx, 1, none⟩ = some (.int .i64 x.file) ∧ W.cell? ⟨bx, 2, none⟩ = some (.int .i64 x.line) ∧ W.cell? ⟨bx, 3, none⟩ = some (.int .i64 x.part) ∧ W.cell? ⟨bx, 4, none⟩ = some (.int .i64 x.piece) ∧ W.cell? ⟨bx, 5, none⟩ = some (.bool x.equ) ∧ W.cell? ⟨bx, 6, none⟩ = some (.int .i64 x.v.add) ∧ W.cell? ⟨bx, 7, none⟩ = some (.string x.v.plus) ∧ W.cell? ⟨bx, 8, none⟩ = some (.string x.v.minus) :=
 ⟨cell_of_row _ _ 0 _ _ _ h, cell_of_row _ _ 1 _ _ _ h, cell_of_row _ _ 2 _ _ _ h, cell_of_row _ _ 3 _ _ _ h, cell_of_row _ _ 4 _ _ _ h, cell_of_row _ _ 5 _ _ _ h, cell_of_row _ _ 6 _ _ _ h, cell_of_row _ _ 7 _ _ _ h, cell_of_row _ _ 8 _ _ _ h⟩
structure MkH (m g q : Nat) (v : Value) (file line : Int) (name : ByteArray) (w' : World) : Prop where
 fl : FL m 5 file line name w'
 pc : w'.cell? ⟨g, q, none⟩ = some v
theorem MkH.setb {g q bx : Nat} {v : Value} (h : MkH m g q v file line name W) (hm : m ≠ bx) (hg : g ≠ bx) (k : Nat) (u : Value) : MkH m g q v file line name (W.setCell ⟨bx, k, none⟩ u) :=
 ⟨h.fl.blk (heap_setCell_other _ _ _ _ hm), (World.cell?_of_block (a := ⟨g, q, none⟩) (heap_setCell_other _ _ _ _ hg)).trans h.pc⟩
set_option maxRecDepth 20000 in
set_option maxHeartbeats 4000000 in
theorem mark_any (h : CIs W base m mb X file line name) {n : Nat} (hn : Sm X n) (hn2 : n ≤ 4000000) (x : Mk) :
  Calls Try.prog 22 #[.pointer (some ⟨m, 0, none⟩), .agg x.cells.toArray] W (PutT W base m mb X file line name (X.pl.mark file line name x.name x.equ x.v) (n + 1)) := by
 have HC := hid h
 have HN := hid hn
 obtain ⟨W1, hW1⟩ : ∃ W1, W1 = W.alloc (.cells x.cells.toArray 81) := ⟨_, rfl⟩
 have hb1 : Below W.heap.size W W1 := by rw [hW1]; exact alloc_below _ _
 have hx1 : W1.heap[W.heap.size]? = some (.cells x.cells.toArray 81 (0, 0)) := by rw [hW1]; exact heap_alloc_new _ _
 have y0 := (boxm_cells (bx := W.heap.size) (x := x) hx1).1
 have HB1 := hid hb1
 have HX1 := hid hx1
 have HW1 := hid hW1
 have h1 := h.below hb1
 have H1 := hid h1
 have HF := hid (fails_any h1 (Nat.le_trans hn.fs (by omega)) 3)
 have HP := hid (part_anyP h1 (Nat.le_trans hn.ps (by omega)))
 clear h hn hb1 hx1 h1 hW1
 by_cases hlong : 255 < x.name.size
 ·have hlI : (255 : Int) < (x.name.size : Int) := by omega
  go_enter Try.func22, Try.ntmps22
  go_upto_region 1 with (fail)
  rw [← HW1.out]
  go_wp2_with (go_at_call 36; (with_reducible refine HF.out.mono ?_); rintro e w3 ⟨rfl, ⟨v', h3⟩, ht3⟩; have H3 := hid h3; have HT3 := hid ht3; clear h3 ht3)
  go_end0
  refine ⟨rfl, (TrnP.below HB1.out HC.out.hz).trans HT3.out, _, H3.out, ?_, ?_⟩
  ·unfold FP.mark; rw [if_pos hlong]; rfl
  ·have q := HN.out
   exact ⟨Nat.le_succ_of_le q.ps, Nat.le_succ_of_le q.ms, Nat.le_succ_of_le q.gs, by show (X.fs ++ [_]).length ≤ _; rw [List.length_append]; have := q.fs; simp; omega, fun y hy => Nat.le_succ_of_le (q.pcs y hy)⟩
 ·have hlI : ¬ (255 : Int) < (x.name.size : Int) := by omega
  have HLG := hid hlong
  clear hlong
  go_enter Try.func22, Try.ntmps22
  go_upto_region 1 with (fail)
  rw [← HW1.out]
  go_upto_region 4 with (go_at_call 37; (with_reducible refine HP.out.mono ?_); rintro e w3 ⟨X3, i, g, c, rfl, hpv3, hi3, h3, ht3, hp3⟩)
  have hbx3 : w3.heap[W.heap.size]? = some (.cells x.cells.toArray 81 (0, 0)) := (ht3.2.tag _ _ (tag_row HX1.out) (.inr (.inr rfl))).trans HX1.out
  have hne : ∀ q, (q = m ∨ q = mb ∨ X3.fp q) → q ≠ W.heap.size := h3.box HC.out.is hp3 (Nat.le_refl _) (tag_row hbx3) (.inr rfl) (fun _ e => by rw [hp3.mv] at e; have := own_lt HC.out.is.marks _ e; omega)
  have HBB : Hid (base ≤ W.heap.size) := HC.out.hz
  have HTW : Hid (Trn base W w3) := (TrnP.below HB1.out HC.out.hz).trans ht3.pt
  generalize W.heap.size = bx at *
  have hfl3 := h3.cells.2.2.2.2.2
  have H3 := hid h3
  have HP3 := hid hp3
  have HPV := hid hpv3
  have HI3 := hid hi3
  have HNE := hid hne
  have hmx : m ≠ bx := hne m (.inl rfl)
  have hpar := h3.is.parts
  rw [hpv3] at hpar
  obtain ⟨pr, cr, er, hrow⟩ := own_shape hpar
  cases er
  have d3 := (ptr_cells hrow i hi3).2.2.2
  rw [Nat.zero_add] at d3
  have hgb : g ≠ bx := hne g (.inr (.inr (.inl (by rw [hpv3]; rfl))))
  obtain ⟨y, hy⟩ : ∃ y, X3.ps[i]? = some y := ⟨_, List.getElem?_eq_getElem hi3⟩
  have hge : X3.ps[i]'hi3 = y := (List.getElem?_eq_some_iff.1 hy).2
  rw [hge] at d3
  have HY := hid hy
  have HYL : Hid (y.pieces.l.length ≤ n) := hp3.pcs HN.out y (List.mem_of_getElem? hy)
  have HHM : Hid (MkH m g (i * 4 + 3) y.pieces.val file line name w3.drew) := ⟨hfl3.drew, d3⟩
  have HBX := hid hbx3
  have zb1 := cell_of_row _ _ 1 _ _ _ hbx3
  have zb2 := cell_of_row _ _ 2 _ _ _ hbx3
  have zb3 := cell_of_row _ _ 3 _ _ _ hbx3
  have zb4 := cell_of_row _ _ 4 _ _ _ hbx3
  have zf1 := frozen_of_row _ _ 1 _ _ hbx3
  have zf2 := frozen_of_row _ _ 2 _ _ hbx3
  have zf3 := frozen_of_row _ _ 3 _ _ hbx3
  have zf4 := frozen_of_row _ _ 4 _ _ hbx3
  have a5 : ∀ w' : World, MkH m g (i * 4 + 3) y.pieces.val file line name w' → w'.cell? ⟨m, 5, none⟩ = some (.int .i64 file) := fun _ h => h.fl.f
  have a6 : ∀ w' : World, MkH m g (i * 4 + 3) y.pieces.val file line name w' → w'.cell? ⟨m, 6, none⟩ = some (.int .i64 line) := fun _ h => h.fl.l
  have a7 : ∀ w' : World, MkH m g (i * 4 + 3) y.pieces.val file line name w' → w'.cell? ⟨g, i * 4 + 3, none⟩ = some (.slice y.pieces.p y.pieces.l.length y.pieces.c) := fun _ h => h.pc
  have HFS : Hid (∀ (w' : World) (k : Nat) (v : Value), MkH m g (i * 4 + 3) y.pieces.val file line name w' → MkH m g (i * 4 + 3) y.pieces.val file line name (w'.setCell ⟨bx, k, none⟩ v)) := fun w' k v hw => hw.setb hmx hgb k v
  clear h3 ht3 hp3 hpv3 hi3 hne hfl3 hbx3 hpar hrow d3 hy hge
  obtain ⟨len, hlen⟩ : ∃ len, len = y.pieces.l.length := ⟨_, rfl⟩
  have HLEN := hid hlen
  rw [← hlen] at a7
  clear hlen
  go_cut [6] (fun p wx => wx = ((((w3.setCell ⟨bx, 1, none⟩ (.int .i64 file)).setCell ⟨bx, 2, none⟩ (.int .i64 line)).setCell ⟨bx, 3, none⟩ (.int .i64 (i : Nat))).setCell ⟨bx, 4, none⟩ (.int .i64 (len : Nat))).drew)
  case first =>
   refine wp_region_held_drew (S := MkH m g (i * 4 + 3) y.pieces.val file line name) (by kernel_rfl) HHM.out (fun hHeld => ?_)
   refine wpAnyH_take (i := 0) (oi := { dst := some 17, op := Op.move (Operand.tmp 0), type := 75, pos := "frag.go:66", after := #[], guard := none }) (v := ?pav0) rfl (by kernel_rfl) (by kernel_rfl) (by kernel_rfl) (fun _ _ _ h => h) (Or.inl ⟨by rfl, ?pah0⟩) (by assumption) ?par0
   case pah0 => ((intro w hSw; (try dsimp only at hSw); go_simp); try with_reducible rfl)
   try simp only [Act.put, List.setIfInBounds_toArray, List.set_cons_zero, List.set_cons_succ]
   refine wpAnyH_take (i := 1) (oi := { dst := some 18, op := Op.nilCheck (Operand.tmp 17), type := 0, pos := "frag.go:66", after := #[{ on := 0, ground := Ground.data }], guard := none }) (v := ?pav1) rfl (by kernel_rfl) (by kernel_rfl) (by kernel_rfl) (fun _ _ _ h => h) (Or.inl ⟨by rfl, ?pah1⟩) (by assumption) ?par1
   case pah1 => ((intro w hSw; (try dsimp only at hSw); go_simp); try with_reducible rfl)
   try simp only [Act.put, List.setIfInBounds_toArray, List.set_cons_zero, List.set_cons_succ]
   refine wpAnyH_take (i := 2) (oi := { dst := some 19, op := Op.fieldAddr 78 (Operand.tmp 18) 3, type := 0, pos := "frag.go:66", after := #[{ on := 1, ground := Ground.data }], guard := none }) (v := ?pav2) rfl (by kernel_rfl) (by kernel_rfl) (by kernel_rfl) (fun _ _ _ h => h) (Or.inl ⟨by rfl, ?pah2⟩) (by assumption) ?par2
   case pah2 => ((intro w hSw; (try dsimp only at hSw); go_simp); try with_reducible rfl)
   try simp only [Act.put, List.setIfInBounds_toArray, List.set_cons_zero, List.set_cons_succ]
   refine wpAnyH_take (i := 3) (oi := { dst := some 20, op := Op.load 3 (Operand.tmp 19), type := 3, pos := "frag.go:66", after := #[{ on := 2, ground := Ground.data }], guard := none }) (v := ?pav3) rfl (by kernel_rfl) (by kernel_rfl) (by kernel_rfl) (fun _ _ _ h => h) (Or.inl ⟨by rfl, ?pah3⟩) (by assumption) ?par3
   case pah3 => ((intro w hSw; (try dsimp only at hSw); go_simp); try with_reducible rfl)
   try simp only [Act.put, List.setIfInBounds_toArray, List.set_cons_zero, List.set_cons_succ]
   refine wpAnyH_take (i := 4) (oi := { dst := some 21, op := Op.move (Operand.tmp 0), type := 75, pos := "frag.go:66", after := #[{ on := 15, ground := Ground.gcOnly Departure.lateStores }], guard := none }) (v := ?pav4) rfl (by kernel_rfl) (by kernel_rfl) (by kernel_rfl) (fun _ _ _ h => h) (Or.inl ⟨by rfl, ?pah4⟩) (by assumption) ?par4
   case pah4 => ((intro w hSw; (try dsimp only at hSw); go_simp); try with_reducible rfl)
   try simp only [Act.put, List.setIfInBounds_toArray, List.set_cons_zero, List.set_cons_succ]
   refine wpAnyH_take (i := 5) (oi := { dst := some 22, op := Op.nilCheck (Operand.tmp 21), type := 0, pos := "frag.go:66", after := #[{ on := 4, ground := Ground.data }, { on := 15, ground := Ground.gcOnly Departure.lateStores }], guard := none }) (v := ?pav5) rfl (by kernel_rfl) (by kernel_rfl) (by kernel_rfl) (fun _ _ _ h => h) (Or.inl ⟨by rfl, ?pah5⟩) (by assumption) ?par5
   case pah5 => ((intro w hSw; (try dsimp only at hSw); go_simp); try with_reducible rfl)
   try simp only [Act.put, List.setIfInBounds_toArray, List.set_cons_zero, List.set_cons_succ]
   refine wpAnyH_take (i := 6) (oi := { dst := some 23, op := Op.fieldAddr 78 (Operand.tmp 22) 4, type := 0, pos := "frag.go:66", after := #[{ on := 5, ground := Ground.data }, { on := 15, ground := Ground.gcOnly Departure.lateStores }], guard := none }) (v := ?pav6) rfl (by kernel_rfl) (by kernel_rfl) (by kernel_rfl) (fun _ _ _ h => h) (Or.inl ⟨by rfl, ?pah6⟩) (by assumption) ?par6
   case pah6 => ((intro w hSw; (try dsimp only at hSw); go_simp); try with_reducible rfl)
   try simp only [Act.put, List.setIfInBounds_toArray, List.set_cons_zero, List.set_cons_succ]
   refine wpAnyH_take (i := 7) (oi := { dst := some 24, op := Op.load 3 (Operand.tmp 23), type := 3, pos := "frag.go:66", after := #[{ on := 6, ground := Ground.data }, { on := 15, ground := Ground.gcOnly Departure.lateStores }], guard := none }) (v := ?pav7) rfl (by kernel_rfl) (by kernel_rfl) (by kernel_rfl) (fun _ _ _ h => h) (Or.inl ⟨by rfl, ?pah7⟩) (by assumption) ?par7
   case pah7 => ((intro w hSw; (try dsimp only at hSw); go_simp); try with_reducible rfl)
   try simp only [Act.put, List.setIfInBounds_toArray, List.set_cons_zero, List.set_cons_succ]
   refine wpAnyH_take (i := 8) (oi := { dst := some 25, op := Op.move (Operand.tmp 5), type := 3, pos := "frag.go:66", after := #[{ on := 17, ground := Ground.gcOnly Departure.lateStores }], guard := none }) (v := ?pav8) rfl (by kernel_rfl) (by kernel_rfl) (by kernel_rfl) (fun _ _ _ h => h) (Or.inl ⟨by rfl, ?pah8⟩) (by assumption) ?par8
   case pah8 => ((intro w hSw; (try dsimp only at hSw); go_simp); try with_reducible rfl)
   try simp only [Act.put, List.setIfInBounds_toArray, List.set_cons_zero, List.set_cons_succ]
   refine wpAnyH_take (i := 9) (oi := { dst := some 26, op := Op.move (Operand.tmp 4), type := 107, pos := "frag.go:66", after := #[], guard := none }) (v := ?pav9) rfl (by kernel_rfl) (by kernel_rfl) (by kernel_rfl) (fun _ _ _ h => h) (Or.inl ⟨by rfl, ?pah9⟩) (by assumption) ?par9
   case pah9 => ((intro w hSw; (try dsimp only at hSw); go_simp); try with_reducible rfl)
   try simp only [Act.put, List.setIfInBounds_toArray, List.set_cons_zero, List.set_cons_succ]
   refine wpAnyH_take (i := 10) (oi := { dst := some 27, op := Op.nilCheck (Operand.tmp 26), type := 0, pos := "frag.go:66", after := #[{ on := 9, ground := Ground.data }], guard := none }) (v := ?pav10) rfl (by kernel_rfl) (by kernel_rfl) (by kernel_rfl) (fun _ _ _ h => h) (Or.inl ⟨by rfl, ?pah10⟩) (by assumption) ?par10
   case pah10 => ((intro w hSw; (try dsimp only at hSw); go_simp); try with_reducible rfl)
   try simp only [Act.put, List.setIfInBounds_toArray, List.set_cons_zero, List.set_cons_succ]
   refine wpAnyH_take (i := 11) (oi := { dst := some 28, op := Op.fieldAddr 50 (Operand.tmp 27) 3, type := 0, pos := "frag.go:66", after := #[{ on := 10, ground := Ground.data }], guard := none }) (v := ?pav11) rfl (by kernel_rfl) (by kernel_rfl) (by kernel_rfl) (fun _ _ _ h => h) (Or.inl ⟨by rfl, ?pah11⟩) (by assumption) ?par11
   case pah11 => ((intro w hSw; (try dsimp only at hSw); go_simp); try with_reducible rfl)
   try simp only [Act.put, List.setIfInBounds_toArray, List.set_cons_zero, List.set_cons_succ]
   refine wpAnyH_take (i := 12) (oi := { dst := some 29, op := Op.load 48 (Operand.tmp 28), type := 48, pos := "frag.go:66", after := #[{ on := 11, ground := Ground.data }], guard := none }) (v := ?pav12) rfl (by kernel_rfl) (by kernel_rfl) (by kernel_rfl) (fun _ _ _ h => h) (Or.inl ⟨by rfl, ?pah12⟩) (by assumption) ?par12
   case pah12 => ((intro w hSw; (try dsimp only at hSw); go_simp); try with_reducible rfl)
   try simp only [Act.put, List.setIfInBounds_toArray, List.set_cons_zero, List.set_cons_succ]
   refine wpAnyH_take (i := 13) (oi := { dst := some 30, op := Op.call { callee := Callee.builtin Builtin.len, args := #[Operand.tmp 29], argTypes := #[48] }, type := 3, pos := "frag.go:66", after := #[{ on := 12, ground := Ground.data }], guard := none }) (v := ?pav13) rfl (by kernel_rfl) (by kernel_rfl) (by kernel_rfl) (fun _ _ _ h => h) (Or.inl ⟨by rfl, ?pah13⟩) (by assumption) ?par13
   case pah13 => ((intro w hSw; (try dsimp only at hSw); go_simp); try with_reducible rfl)
   try simp only [Act.put, List.setIfInBounds_toArray, List.set_cons_zero, List.set_cons_succ]
   refine wpAnyH_take (i := 14) (oi := { dst := some 31, op := Op.fieldAddr 81 (Operand.tmp 3) 1, type := 0, pos := "frag.go:66", after := #[{ on := 0, ground := Ground.phase }, { on := 1, ground := Ground.phase }, { on := 2, ground := Ground.phase }, { on := 3, ground := Ground.phase }, { on := 4, ground := Ground.textOnly Departure.lateStores }, { on := 5, ground := Ground.textOnly Departure.lateStores }, { on := 6, ground := Ground.textOnly Departure.lateStores }, { on := 7, ground := Ground.textOnly Departure.lateStores }, { on := 8, ground := Ground.textOnly Departure.lateStores }, { on := 9, ground := Ground.textOnly Departure.lateStores }, { on := 10, ground := Ground.textOnly Departure.lateStores }, { on := 11, ground := Ground.textOnly Departure.lateStores }, { on := 12, ground := Ground.textOnly Departure.lateStores }, { on := 13, ground := Ground.textOnly Departure.lateStoresUnsure }], guard := none }) (v := ?pav14) rfl (by kernel_rfl) (by kernel_rfl) (by kernel_rfl) (fun _ _ _ h => h) (Or.inl ⟨by rfl, ?pah14⟩) (by assumption) ?par14
   case pah14 => ((intro w hSw; (try dsimp only at hSw); go_simp); try with_reducible rfl)
   try simp only [Act.put, List.setIfInBounds_toArray, List.set_cons_zero, List.set_cons_succ]
   refine wpAnyH_ready (rs := [15]) (by kernel_rfl) (by simp) ?_
   refine AllReadyH.cons (o := { dst := none, op := Op.store 3 (Operand.tmp 31) (Operand.tmp 20), type := 0, pos := "frag.go:66", after := #[{ on := 14, ground := Ground.data }, { on := 3, ground := Ground.data }, { on := 0, ground := Ground.phase }, { on := 1, ground := Ground.phase }, { on := 2, ground := Ground.phase }, { on := 3, ground := Ground.phase }, { on := 4, ground := Ground.textOnly Departure.lateStores }, { on := 5, ground := Ground.textOnly Departure.lateStores }, { on := 6, ground := Ground.textOnly Departure.lateStores }, { on := 7, ground := Ground.textOnly Departure.lateStores }, { on := 8, ground := Ground.textOnly Departure.lateStores }, { on := 9, ground := Ground.textOnly Departure.lateStores }, { on := 10, ground := Ground.textOnly Departure.lateStores }, { on := 11, ground := Ground.textOnly Departure.lateStores }, { on := 12, ground := Ground.textOnly Departure.lateStores }, { on := 13, ground := Ground.textOnly Departure.lateStoresUnsure }], guard := none }) rfl (fun K hK => ?_) AllReadyH.nil
   go_simp; refine hK.out _ _ (HFS.out _ _ _ HHM.out) (fun hHeld => ?_)
   clear hK K
   try simp only [Act.put, List.setIfInBounds_toArray, List.set_cons_zero, List.set_cons_succ]
   refine wpAnyH_take (i := 16) (oi := { dst := some 32, op := Op.fieldAddr 81 (Operand.tmp 3) 2, type := 0, pos := "frag.go:66", after := #[{ on := 0, ground := Ground.phase }, { on := 1, ground := Ground.phase }, { on := 2, ground := Ground.phase }, { on := 3, ground := Ground.phase }, { on := 4, ground := Ground.phase }, { on := 5, ground := Ground.phase }, { on := 6, ground := Ground.phase }, { on := 7, ground := Ground.phase }, { on := 8, ground := Ground.textOnly Departure.lateStores }, { on := 9, ground := Ground.textOnly Departure.lateStores }, { on := 10, ground := Ground.textOnly Departure.lateStores }, { on := 11, ground := Ground.textOnly Departure.lateStores }, { on := 12, ground := Ground.textOnly Departure.lateStores }, { on := 13, ground := Ground.textOnly Departure.lateStoresUnsure }, { on := 14, ground := Ground.phase }, { on := 15, ground := Ground.phase }], guard := none }) (v := ?pav16) rfl (by kernel_rfl) (by kernel_rfl) (by kernel_rfl) (fun _ _ _ h => h) (Or.inl ⟨by rfl, ?pah16⟩) (by assumption) ?par16
   case pah16 => ((intro w hSw; (try dsimp only at hSw); go_simp); try with_reducible rfl)
   try simp only [Act.put, List.setIfInBounds_toArray, List.set_cons_zero, List.set_cons_succ]
   refine wpAnyH_ready (rs := [17]) (by kernel_rfl) (by simp) ?_
   refine AllReadyH.cons (o := { dst := none, op := Op.store 3 (Operand.tmp 32) (Operand.tmp 24), type := 0, pos := "frag.go:66", after := #[{ on := 16, ground := Ground.data }, { on := 7, ground := Ground.data }, { on := 15, ground := Ground.chain }, { on := 0, ground := Ground.phase }, { on := 1, ground := Ground.phase }, { on := 2, ground := Ground.phase }, { on := 3, ground := Ground.phase }, { on := 4, ground := Ground.phase }, { on := 5, ground := Ground.phase }, { on := 6, ground := Ground.phase }, { on := 7, ground := Ground.phase }, { on := 8, ground := Ground.textOnly Departure.lateStores }, { on := 9, ground := Ground.textOnly Departure.lateStores }, { on := 10, ground := Ground.textOnly Departure.lateStores }, { on := 11, ground := Ground.textOnly Departure.lateStores }, { on := 12, ground := Ground.textOnly Departure.lateStores }, { on := 13, ground := Ground.textOnly Departure.lateStoresUnsure }, { on := 14, ground := Ground.phase }, { on := 15, ground := Ground.phase }], guard := none }) rfl (fun K hK => ?_) AllReadyH.nil
   go_simp; refine hK.out _ _ (HFS.out _ _ _ (HFS.out _ _ _ HHM.out)) (fun hHeld => ?_)
   clear hK K
   try simp only [Act.put, List.setIfInBounds_toArray, List.set_cons_zero, List.set_cons_succ]
   refine wpAnyH_take (i := 18) (oi := { dst := some 33, op := Op.fieldAddr 81 (Operand.tmp 3) 3, type := 0, pos := "frag.go:66", after := #[{ on := 0, ground := Ground.phase }, { on := 1, ground := Ground.phase }, { on := 2, ground := Ground.phase }, { on := 3, ground := Ground.phase }, { on := 4, ground := Ground.phase }, { on := 5, ground := Ground.phase }, { on := 6, ground := Ground.phase }, { on := 7, ground := Ground.phase }, { on := 8, ground := Ground.phase }, { on := 9, ground := Ground.textOnly Departure.lateStores }, { on := 10, ground := Ground.textOnly Departure.lateStores }, { on := 11, ground := Ground.textOnly Departure.lateStores }, { on := 12, ground := Ground.textOnly Departure.lateStores }, { on := 13, ground := Ground.textOnly Departure.lateStoresUnsure }, { on := 14, ground := Ground.phase }, { on := 15, ground := Ground.phase }, { on := 16, ground := Ground.phase }, { on := 17, ground := Ground.phase }], guard := none }) (v := ?pav18) rfl (by kernel_rfl) (by kernel_rfl) (by kernel_rfl) (fun _ _ _ h => h) (Or.inl ⟨by rfl, ?pah18⟩) (by assumption) ?par18
   case pah18 => ((intro w hSw; (try dsimp only at hSw); go_simp); try with_reducible rfl)
   try simp only [Act.put, List.setIfInBounds_toArray, List.set_cons_zero, List.set_cons_succ]
   refine wpAnyH_ready (rs := [19]) (by kernel_rfl) (by simp) ?_
   refine AllReadyH.cons (o := { dst := none, op := Op.store 3 (Operand.tmp 33) (Operand.tmp 25), type := 0, pos := "frag.go:66", after := #[{ on := 18, ground := Ground.data }, { on := 8, ground := Ground.data }, { on := 17, ground := Ground.chain }, { on := 0, ground := Ground.phase }, { on := 1, ground := Ground.phase }, { on := 2, ground := Ground.phase }, { on := 3, ground := Ground.phase }, { on := 4, ground := Ground.phase }, { on := 5, ground := Ground.phase }, { on := 6, ground := Ground.phase }, { on := 7, ground := Ground.phase }, { on := 8, ground := Ground.phase }, { on := 9, ground := Ground.textOnly Departure.lateStores }, { on := 10, ground := Ground.textOnly Departure.lateStores }, { on := 11, ground := Ground.textOnly Departure.lateStores }, { on := 12, ground := Ground.textOnly Departure.lateStores }, { on := 13, ground := Ground.textOnly Departure.lateStoresUnsure }, { on := 14, ground := Ground.phase }, { on := 15, ground := Ground.phase }, { on := 16, ground := Ground.phase }, { on := 17, ground := Ground.phase }], guard := none }) rfl (fun K hK => ?_) AllReadyH.nil
   go_simp; refine hK.out _ _ (HFS.out _ _ _ (HFS.out _ _ _ (HFS.out _ _ _ HHM.out))) (fun hHeld => ?_)
   clear hK K
   try simp only [Act.put, List.setIfInBounds_toArray, List.set_cons_zero, List.set_cons_succ]
   refine wpAnyH_take (i := 20) (oi := { dst := some 34, op := Op.fieldAddr 81 (Operand.tmp 3) 4, type := 0, pos := "frag.go:66", after := #[{ on := 0, ground := Ground.phase }, { on := 1, ground := Ground.phase }, { on := 2, ground := Ground.phase }, { on := 3, ground := Ground.phase }, { on := 4, ground := Ground.phase }, { on := 5, ground := Ground.phase }, { on := 6, ground := Ground.phase }, { on := 7, ground := Ground.phase }, { on := 8, ground := Ground.phase }, { on := 9, ground := Ground.phase }, { on := 10, ground := Ground.phase }, { on := 11, ground := Ground.phase }, { on := 12, ground := Ground.phase }, { on := 13, ground := Ground.phase }, { on := 14, ground := Ground.phase }, { on := 15, ground := Ground.phase }, { on := 16, ground := Ground.phase }, { on := 17, ground := Ground.phase }, { on := 18, ground := Ground.phase }, { on := 19, ground := Ground.phase }], guard := none }) (v := ?pav20) rfl (by kernel_rfl) (by kernel_rfl) (by kernel_rfl) (fun _ _ _ h => h) (Or.inl ⟨by rfl, ?pah20⟩) (by assumption) ?par20
   case pah20 => ((intro w hSw; (try dsimp only at hSw); go_simp); try with_reducible rfl)
   try simp only [Act.put, List.setIfInBounds_toArray, List.set_cons_zero, List.set_cons_succ]
   refine wpAnyH_ready (rs := [21]) (by kernel_rfl) (by simp) ?_
   refine AllReadyH.cons (o := { dst := none, op := Op.store 3 (Operand.tmp 34) (Operand.tmp 30), type := 0, pos := "frag.go:66", after := #[{ on := 20, ground := Ground.data }, { on := 13, ground := Ground.data }, { on := 19, ground := Ground.chain }, { on := 0, ground := Ground.phase }, { on := 1, ground := Ground.phase }, { on := 2, ground := Ground.phase }, { on := 3, ground := Ground.phase }, { on := 4, ground := Ground.phase }, { on := 5, ground := Ground.phase }, { on := 6, ground := Ground.phase }, { on := 7, ground := Ground.phase }, { on := 8, ground := Ground.phase }, { on := 9, ground := Ground.phase }, { on := 10, ground := Ground.phase }, { on := 11, ground := Ground.phase }, { on := 12, ground := Ground.phase }, { on := 13, ground := Ground.phase }, { on := 14, ground := Ground.phase }, { on := 15, ground := Ground.phase }, { on := 16, ground := Ground.phase }, { on := 17, ground := Ground.phase }, { on := 18, ground := Ground.phase }, { on := 19, ground := Ground.phase }], guard := none }) rfl (fun K hK => ?_) AllReadyH.nil
   go_simp; refine hK.out _ _ (HFS.out _ _ _ (HFS.out _ _ _ (HFS.out _ _ _ (HFS.out _ _ _ HHM.out)))) (fun hHeld => ?_)
   clear hK K
   try simp only [Act.put, List.setIfInBounds_toArray, List.set_cons_zero, List.set_cons_succ]
   refine wpAnyH_done (by kernel_rfl) ?_ _
   go_wp2_with fail
   go_meet
   rfl
  case rest =>
   rw [hcut]
   clear hcut zb1 zb2 zb3 zb4 zf1 zf2 zf3 zf4 a5 a6 a7
   go_upto_region 5 with (fail)
   obtain ⟨W4, hW4⟩ : ∃ W4, W4 = ((((w3.setCell ⟨bx, 1, none⟩ (.int .i64 file)).setCell ⟨bx, 2, none⟩ (.int .i64 line)).setCell ⟨bx, 3, none⟩ (.int .i64 (i : Nat))).setCell ⟨bx, 4, none⟩ (.int .i64 (len : Nat))).drew := ⟨_, rfl⟩
   rw [← hW4]
   obtain ⟨x', hx'⟩ : ∃ x' : Mk, x' = ⟨x.name, file, line, (i : Nat), (len : Nat), x.equ, x.v⟩ := ⟨_, rfl⟩
   have hb4 : W4.heap[bx]? = some (.cells x'.cells.toArray 81 (0, 0)) := by
    rw [hW4, hx']
    exact heap_setCell_same _ _ 4 _ _ _ (heap_setCell_same _ _ 3 _ _ _ (heap_setCell_same _ _ 2 _ _ _ (heap_setCell_same _ _ 1 _ _ _ HBX.out)))
   have ho4 : ∀ q, q ≠ bx → W4.heap[q]? = w3.heap[q]? := fun q hq => by
    rw [hW4]; exact (heap_setCell_other _ _ _ _ hq).trans ((heap_setCell_other _ _ _ _ hq).trans ((heap_setCell_other _ _ _ _ hq).trans (heap_setCell_other _ _ _ _ hq)))
   have hbase : base ≤ bx := HBB.out
   have hg4 : w3.grownBy W4 (some bx) := by
    rw [hW4]
    refine ⟨rfl, rfl, rfl, by show _ ≤ ((((w3.setCell _ _).setCell _ _).setCell _ _).setCell _ _).heap.size; simp, fun k _ hk => ?_⟩
    have hk2 : k ≠ bx := fun e => hk (by rw [e])
    have := ho4 k hk2
    rw [hW4] at this
    exact this
   have ht4 : Trn base w3 W4 := TrnP.grown hg4 (fun q e => by cases e; exact ⟨tag_row HBX.out, hbase⟩) (by unfold isPT; decide) H3.out.hz
   have h4 : CIs W4 base m mb X3 file line name := H3.out.but (fun q hq => ho4 q (HNE.out q hq)) ht4.2
   have HTR : Hid (Trn base W W4) := HTW.out.trans ht4
   have HXE := hid hx'
   have H4 := hid h4
   obtain ⟨c0, c1, c2, c3, c4, hfl⟩ := h4.cells
   obtain ⟨pv, cv, hvc, -⟩ := own_shape h4.is.marks
   rw [hvc] at c1
   have hz4 := h4.hz
   have HP7 : Hid (W4.ownsRow base 81 9 (.slice pv X3.ms.length cv) X3.ms.length (X3.ms.flatMap Mk.cells)) := by have := h4.is.marks; rw [hvc] at this; exact this
   have HVC : Hid (X3.mv.ownBlock = (Value.slice pv X3.ms.length cv).ownBlock) := by unfold Hid; rw [hvc]
   have hbl : bx < W4.heap.size := (Array.getElem?_eq_some_iff.1 hb4).1
   have hml : m < W4.heap.size := h4.lt
   have hmsl : X3.ms.length ≤ n := by rw [HP3.out.ms]; exact HN.out.ms
   have c1L : ∀ o : Obj, (W4.alloc o).cell? ⟨m, 1, none⟩ = some (.slice pv X3.ms.length cv) := fun o => (World.cell?_of_block (a := ⟨m, 1, none⟩) (Below.heap_alloc W4 o m hml)).trans c1
   have HSL : Hid (∀ o : Obj, BxM bx x' (W4.alloc o).drew) := fun o => (Below.heap_alloc W4 o bx hbl).trans hb4
   have HH4 : Hid (BxM bx x' W4.drew) := hb4
   have hmvb : X3.mv.ownBlock ≠ some bx := fun e => HNE.out bx (.inr (.inr (.inr (.inl e)))) rfl
   have HK8 : Hid (∀ (o : Obj) (w8 : World), (W4.alloc o).drew.grownBy w8 (Value.slice pv X3.ms.length cv).ownBlock → BxM bx x' w8 ∧ w8.heap[m]? = some (.cells (headC X3 mb file line name) 78 (0, 0))) := fun o w8 hg => by
    have hg2 := grown_undrew hg
    have e1 : w8.heap[bx]? = W4.heap[bx]? := (hg2.block bx (by simp; omega) (fun e => hmvb (by rw [HVC.out]; exact e.symm))).trans (Below.heap_alloc W4 o bx hbl)
    exact ⟨e1.trans hb4, (H4.out.appMark (by rw [HVC.out]; exact hg)).1⟩
   have HBS : Hid (∀ (w' : World) (v : Value), BxM bx x' w' → BxM bx x' (w'.setCell ⟨m, 1, none⟩ v)) := fun w' v hw => (heap_setCell_other _ _ _ _ (Ne.symm hmx)).trans hw
   have HFIN : Hid (∀ (o : Obj) (w8 : World) (v' : Value), w8.ownsRow base 81 9 v' (X3.ms.length + 1) (X3.ms.flatMap Mk.cells ++ x'.cells) → (W4.alloc o).drew.grownBy w8 (Value.slice pv X3.ms.length cv).ownBlock →
     PutT W base m mb X file line name (X.pl.mark file line name x.name x.equ x.v) (n + 1) (.returned (.tuple #[])) (w8.setCell ⟨m, 1, none⟩ v')) := fun o w8 v' ho8 hg8 => by
    have hfin := H4.out.finMark x' ho8 (by rw [HVC.out]; exact hg8)
    refine ⟨rfl, HTR.out.trans hfin.2, { X3 with mv := v', ms := X3.ms ++ [x'] }, hfin.1, ?_, ?_⟩
    ·unfold FP.mark
     rw [if_neg HLG.out, HP3.out.plain]
     have e : pcsAt X3.pl i = len := by
      unfold pcsAt FV.pl
      dsimp only
      rw [List.getElem?_map, HY.out, HLEN.out]
      simp [PtR.pl]
     show (⟨X3.ps.map PtR.pl, X3.ms ++ [x'], X3.gs, X3.fs⟩ : FP) = _
     dsimp only
     rw [e, HXE.out, HP3.out.ms]
     rfl
    ·have hsm := HP3.out.sm HN.out
     have := HN.out.ms
     refine ⟨hsm.ps, ?_, hsm.gs, hsm.fs, hsm.pcs⟩
     show (X3.ms ++ [x']).length ≤ n + 1
     rw [List.length_append, HP3.out.ms]; simp; omega
   clear h4 hb4 ho4 hg4 ht4 hW4 hx' hfl c0 c2 c3 c4 hvc
   generalize hml2 : X3.ms.length = ml at *
   have HML := hid hml2
   clear hml2
   have k0 : ∀ w' : World, BxM bx x' w' → w'.cell? ⟨bx, 0, none⟩ = some (.string x'.name) := fun w' h => (boxm_cells h).1
   have k1 : ∀ w' : World, BxM bx x' w' → w'.cell? ⟨bx, 1, none⟩ = some (.int .i64 x'.file) := fun w' h => (boxm_cells h).2.1
   have k2 : ∀ w' : World, BxM bx x' w' → w'.cell? ⟨bx, 2, none⟩ = some (.int .i64 x'.line) := fun w' h => (boxm_cells h).2.2.1
   have k3 : ∀ w' : World, BxM bx x' w' → w'.cell? ⟨bx, 3, none⟩ = some (.int .i64 x'.part) := fun w' h => (boxm_cells h).2.2.2.1
   have k4 : ∀ w' : World, BxM bx x' w' → w'.cell? ⟨bx, 4, none⟩ = some (.int .i64 x'.piece) := fun w' h => (boxm_cells h).2.2.2.2.1
   have k5 : ∀ w' : World, BxM bx x' w' → w'.cell? ⟨bx, 5, none⟩ = some (.bool x'.equ) := fun w' h => (boxm_cells h).2.2.2.2.2.1
   have k6 : ∀ w' : World, BxM bx x' w' → w'.cell? ⟨bx, 6, none⟩ = some (.int .i64 x'.v.add) := fun w' h => (boxm_cells h).2.2.2.2.2.2.1
   have k7 : ∀ w' : World, BxM bx x' w' → w'.cell? ⟨bx, 7, none⟩ = some (.string x'.v.plus) := fun w' h => (boxm_cells h).2.2.2.2.2.2.2.1
   have k8 : ∀ w' : World, BxM bx x' w' → w'.cell? ⟨bx, 8, none⟩ = some (.string x'.v.minus) := fun w' h => (boxm_cells h).2.2.2.2.2.2.2.2
   refine wp_region_held_drew (S := BxM bx x') (by kernel_rfl) HH4.out (fun hHeld => ?_)
   refine wpAnyH_take (i := 0) (oi := { dst := some 35, op := Op.move (Operand.tmp 0), type := 75, pos := "frag.go:67", after := #[], guard := none }) (v := ?pbv0) rfl (by kernel_rfl) (by kernel_rfl) (by kernel_rfl) (fun _ _ _ h => h) (Or.inl ⟨by rfl, ?pbh0⟩) (by assumption) ?pbr0
   case pbh0 => ((intro w hSw; (try dsimp only at hSw); go_simp); try with_reducible rfl)
   try simp only [Act.put, List.setIfInBounds_toArray, List.set_cons_zero, List.set_cons_succ]
   refine wpAnyH_take (i := 1) (oi := { dst := some 36, op := Op.move (Operand.tmp 0), type := 75, pos := "frag.go:67", after := #[], guard := none }) (v := ?pbv1) rfl (by kernel_rfl) (by kernel_rfl) (by kernel_rfl) (fun _ _ _ h => h) (Or.inl ⟨by rfl, ?pbh1⟩) (by assumption) ?pbr1
   case pbh1 => ((intro w hSw; (try dsimp only at hSw); go_simp); try with_reducible rfl)
   try simp only [Act.put, List.setIfInBounds_toArray, List.set_cons_zero, List.set_cons_succ]
   refine wpAnyH_take (i := 2) (oi := { dst := some 37, op := Op.nilCheck (Operand.tmp 36), type := 0, pos := "frag.go:67", after := #[{ on := 1, ground := Ground.data }], guard := none }) (v := ?pbv2) rfl (by kernel_rfl) (by kernel_rfl) (by kernel_rfl) (fun _ _ _ h => h) (Or.inl ⟨by rfl, ?pbh2⟩) (by assumption) ?pbr2
   case pbh2 => ((intro w hSw; (try dsimp only at hSw); go_simp); try with_reducible rfl)
   try simp only [Act.put, List.setIfInBounds_toArray, List.set_cons_zero, List.set_cons_succ]
   refine wpAnyH_take (i := 3) (oi := { dst := some 38, op := Op.fieldAddr 78 (Operand.tmp 37) 0, type := 0, pos := "frag.go:67", after := #[{ on := 2, ground := Ground.data }], guard := none }) (v := ?pbv3) rfl (by kernel_rfl) (by kernel_rfl) (by kernel_rfl) (fun _ _ _ h => h) (Or.inl ⟨by rfl, ?pbh3⟩) (by assumption) ?pbr3
   case pbh3 => ((intro w hSw; (try dsimp only at hSw); go_simp); try with_reducible rfl)
   try simp only [Act.put, List.setIfInBounds_toArray, List.set_cons_zero, List.set_cons_succ]
   refine wpAnyH_take (i := 4) (oi := { dst := some 39, op := Op.fieldAddr 32 (Operand.tmp 38) 1, type := 0, pos := "frag.go:67", after := #[{ on := 3, ground := Ground.data }], guard := none }) (v := ?pbv4) rfl (by kernel_rfl) (by kernel_rfl) (by kernel_rfl) (fun _ _ _ h => h) (Or.inl ⟨by rfl, ?pbh4⟩) (by assumption) ?pbr4
   case pbh4 => ((intro w hSw; (try dsimp only at hSw); go_simp); try with_reducible rfl)
   try simp only [Act.put, List.setIfInBounds_toArray, List.set_cons_zero, List.set_cons_succ]
   refine wpAnyH_take (i := 6) (oi := { dst := some 41, op := Op.load 81 (Operand.tmp 3), type := 81, pos := "frag.go:67", after := #[], guard := none }) (v := ?pbv6) rfl (by kernel_rfl) (by kernel_rfl) (by kernel_rfl) (fun _ _ _ h => h) (Or.inl ⟨by rfl, ?pbh6⟩) (by assumption) ?pbr6
   case pbh6 => ((intro w hSw; (try dsimp only at hSw); go_simp); try with_reducible rfl)
   try simp only [Act.put, List.setIfInBounds_toArray, List.set_cons_zero, List.set_cons_succ]
   refine wpAnyH_ready (rs := [5, 7]) (by kernel_rfl) (by simp) ?_
   refine AllReadyH.cons (o := { dst := some 40, op := Op.load 29 (Operand.tmp 39), type := 29, pos := "frag.go:67", after := #[{ on := 4, ground := Ground.data }], guard := none }) rfl (fun K hK => ?_) ?_
   ·go_simp; refine hK.out _ _ (by first | exact HH4.out | exact HSL.out _) (fun hHeld => ?_)
    clear hK K
    try simp only [Act.put, List.setIfInBounds_toArray, List.set_cons_zero, List.set_cons_succ]
    refine wpAnyH_ready (rs := [7]) (by kernel_rfl) (by simp) ?_
    refine AllReadyH.cons (o := { dst := some 42, op := Op.buildSlice 29 1 #[(0, Operand.tmp 41)], type := 29, pos := "frag.go:67", after := #[{ on := 6, ground := Ground.data }], guard := none }) rfl (fun K hK => ?_) AllReadyH.nil
    go_simp; refine hK.out _ _ (HSL.out _) (fun hHeld => ?_)
    clear hK K
    try simp only [Act.put, List.setIfInBounds_toArray, List.set_cons_zero, List.set_cons_succ]
    refine wpAnyH_ready (rs := [8]) (by kernel_rfl) (by simp) ?_
    refine AllReadyH.cons (o := { dst := some 43, op := Op.call { callee := Callee.builtin Builtin.append, args := #[Operand.tmp 40, Operand.tmp 42], argTypes := #[29, 29] }, type := 29, pos := "frag.go:67", after := #[{ on := 5, ground := Ground.data }, { on := 7, ground := Ground.data }], guard := none }) rfl (fun K hK => ?_) AllReadyH.nil
    (refine step_app EMark rfl (.tmp 40) (.tmp 42) rfl base (.slice pv ml cv) ml (X3.ms.flatMap Mk.cells) rfl (HP7.out.alloc _) _ 1 1 x'.cells rfl rfl (row_newAt _ _ _ _ rfl) (mk_ones _) (by unfold maxLen; omega) (by omega) (by simp; omega) ?_); intro vp' w8 ho8 hg8 hs8; obtain ⟨p8, c8, rfl, -⟩ := own_shape ho8; have HO8 := hid ho8; have HG8 := hid hg8; clear ho8 hg8 hs8; obtain ⟨hh8, hm8⟩ := HK8.out _ _ HG8.out; have HH8 := hid hh8; have z8 := cell_of_row _ _ 1 _ _ _ hm8; have zf8 := frozen_of_row _ _ 1 _ _ hm8; clear hh8 hm8; refine hK.out _ _ HH8.out (fun hHeld => ?_)
    clear hK K
    try simp only [Act.put, List.setIfInBounds_toArray, List.set_cons_zero, List.set_cons_succ]
    refine wpAnyH_take (i := 9) (oi := { dst := some 44, op := Op.nilCheck (Operand.tmp 35), type := 0, pos := "frag.go:67", after := #[{ on := 0, ground := Ground.data }, { on := 0, ground := Ground.phase }, { on := 1, ground := Ground.phase }, { on := 2, ground := Ground.phase }, { on := 3, ground := Ground.phase }, { on := 4, ground := Ground.phase }, { on := 5, ground := Ground.phase }, { on := 6, ground := Ground.phase }, { on := 7, ground := Ground.phase }, { on := 8, ground := Ground.phase }], guard := none }) (v := ?pbav9) rfl (by kernel_rfl) (by kernel_rfl) (by kernel_rfl) (fun _ _ _ h => h) (Or.inl ⟨by rfl, ?pbah9⟩) (by assumption) ?pbar9
    case pbah9 => ((intro w hSw; (try dsimp only at hSw); go_simp); try with_reducible rfl)
    try simp only [Act.put, List.setIfInBounds_toArray, List.set_cons_zero, List.set_cons_succ]
    refine wpAnyH_take (i := 10) (oi := { dst := some 45, op := Op.fieldAddr 78 (Operand.tmp 44) 0, type := 0, pos := "frag.go:67", after := #[{ on := 9, ground := Ground.data }, { on := 0, ground := Ground.phase }, { on := 1, ground := Ground.phase }, { on := 2, ground := Ground.phase }, { on := 3, ground := Ground.phase }, { on := 4, ground := Ground.phase }, { on := 5, ground := Ground.phase }, { on := 6, ground := Ground.phase }, { on := 7, ground := Ground.phase }, { on := 8, ground := Ground.phase }], guard := none }) (v := ?pbav10) rfl (by kernel_rfl) (by kernel_rfl) (by kernel_rfl) (fun _ _ _ h => h) (Or.inl ⟨by rfl, ?pbah10⟩) (by assumption) ?pbar10
    case pbah10 => ((intro w hSw; (try dsimp only at hSw); go_simp); try with_reducible rfl)
    try simp only [Act.put, List.setIfInBounds_toArray, List.set_cons_zero, List.set_cons_succ]
    refine wpAnyH_take (i := 11) (oi := { dst := some 46, op := Op.fieldAddr 32 (Operand.tmp 45) 1, type := 0, pos := "frag.go:67", after := #[{ on := 10, ground := Ground.data }, { on := 0, ground := Ground.phase }, { on := 1, ground := Ground.phase }, { on := 2, ground := Ground.phase }, { on := 3, ground := Ground.phase }, { on := 4, ground := Ground.phase }, { on := 5, ground := Ground.phase }, { on := 6, ground := Ground.phase }, { on := 7, ground := Ground.phase }, { on := 8, ground := Ground.phase }], guard := none }) (v := ?pbav11) rfl (by kernel_rfl) (by kernel_rfl) (by kernel_rfl) (fun _ _ _ h => h) (Or.inl ⟨by rfl, ?pbah11⟩) (by assumption) ?pbar11
    case pbah11 => ((intro w hSw; (try dsimp only at hSw); go_simp); try with_reducible rfl)
    try simp only [Act.put, List.setIfInBounds_toArray, List.set_cons_zero, List.set_cons_succ]
    refine wpAnyH_ready (rs := [12]) (by kernel_rfl) (by simp) ?_
    refine AllReadyH.cons (o := { dst := none, op := Op.store 29 (Operand.tmp 46) (Operand.tmp 43), type := 0, pos := "frag.go:67", after := #[{ on := 11, ground := Ground.data }, { on := 8, ground := Ground.data }, { on := 8, ground := Ground.chain }, { on := 0, ground := Ground.phase }, { on := 1, ground := Ground.phase }, { on := 2, ground := Ground.phase }, { on := 3, ground := Ground.phase }, { on := 4, ground := Ground.phase }, { on := 5, ground := Ground.phase }, { on := 6, ground := Ground.phase }, { on := 7, ground := Ground.phase }, { on := 8, ground := Ground.phase }], guard := none }) rfl (fun K hK => ?_) AllReadyH.nil
    go_simp; refine hK.out _ _ (HBS.out _ _ HH8.out) (fun hHeld => ?_)
    clear hK K
    try simp only [Act.put, List.setIfInBounds_toArray, List.set_cons_zero, List.set_cons_succ]
    refine wpAnyH_done (by kernel_rfl) ?_ _
    go_wp2_with fail
    go_end0
    exact HFIN.out _ _ _ HO8.out HG8.out
   refine AllReadyH.cons (o := { dst := some 42, op := Op.buildSlice 29 1 #[(0, Operand.tmp 41)], type := 29, pos := "frag.go:67", after := #[{ on := 6, ground := Ground.data }], guard := none }) rfl (fun K hK => ?_) AllReadyH.nil
   go_simp; refine hK.out _ _ (HSL.out _) (fun hHeld => ?_)
   clear hK K
   try simp only [Act.put, List.setIfInBounds_toArray, List.set_cons_zero, List.set_cons_succ]
   refine wpAnyH_ready (rs := [5]) (by kernel_rfl) (by simp) ?_
   refine AllReadyH.cons (o := { dst := some 40, op := Op.load 29 (Operand.tmp 39), type := 29, pos := "frag.go:67", after := #[{ on := 4, ground := Ground.data }], guard := none }) rfl (fun K hK => ?_) AllReadyH.nil
   go_simp; refine hK.out _ _ (by first | exact HH4.out | exact HSL.out _) (fun hHeld => ?_)
   clear hK K
   try simp only [Act.put, List.setIfInBounds_toArray, List.set_cons_zero, List.set_cons_succ]
   refine wpAnyH_ready (rs := [8]) (by kernel_rfl) (by simp) ?_
   refine AllReadyH.cons (o := { dst := some 43, op := Op.call { callee := Callee.builtin Builtin.append, args := #[Operand.tmp 40, Operand.tmp 42], argTypes := #[29, 29] }, type := 29, pos := "frag.go:67", after := #[{ on := 5, ground := Ground.data }, { on := 7, ground := Ground.data }], guard := none }) rfl (fun K hK => ?_) AllReadyH.nil
   (refine step_app EMark rfl (.tmp 40) (.tmp 42) rfl base (.slice pv ml cv) ml (X3.ms.flatMap Mk.cells) rfl (HP7.out.alloc _) _ 1 1 x'.cells rfl rfl (row_newAt _ _ _ _ rfl) (mk_ones _) (by unfold maxLen; omega) (by omega) (by simp; omega) ?_); intro vp' w8 ho8 hg8 hs8; obtain ⟨p8, c8, rfl, -⟩ := own_shape ho8; have HO8 := hid ho8; have HG8 := hid hg8; clear ho8 hg8 hs8; obtain ⟨hh8, hm8⟩ := HK8.out _ _ HG8.out; have HH8 := hid hh8; have z8 := cell_of_row _ _ 1 _ _ _ hm8; have zf8 := frozen_of_row _ _ 1 _ _ hm8; clear hh8 hm8; refine hK.out _ _ HH8.out (fun hHeld => ?_)
   clear hK K
   try simp only [Act.put, List.setIfInBounds_toArray, List.set_cons_zero, List.set_cons_succ]
   refine wpAnyH_take (i := 9) (oi := { dst := some 44, op := Op.nilCheck (Operand.tmp 35), type := 0, pos := "frag.go:67", after := #[{ on := 0, ground := Ground.data }, { on := 0, ground := Ground.phase }, { on := 1, ground := Ground.phase }, { on := 2, ground := Ground.phase }, { on := 3, ground := Ground.phase }, { on := 4, ground := Ground.phase }, { on := 5, ground := Ground.phase }, { on := 6, ground := Ground.phase }, { on := 7, ground := Ground.phase }, { on := 8, ground := Ground.phase }], guard := none }) (v := ?pbbv9) rfl (by kernel_rfl) (by kernel_rfl) (by kernel_rfl) (fun _ _ _ h => h) (Or.inl ⟨by rfl, ?pbbh9⟩) (by assumption) ?pbbr9
   case pbbh9 => ((intro w hSw; (try dsimp only at hSw); go_simp); try with_reducible rfl)
   try simp only [Act.put, List.setIfInBounds_toArray, List.set_cons_zero, List.set_cons_succ]
   refine wpAnyH_take (i := 10) (oi := { dst := some 45, op := Op.fieldAddr 78 (Operand.tmp 44) 0, type := 0, pos := "frag.go:67", after := #[{ on := 9, ground := Ground.data }, { on := 0, ground := Ground.phase }, { on := 1, ground := Ground.phase }, { on := 2, ground := Ground.phase }, { on := 3, ground := Ground.phase }, { on := 4, ground := Ground.phase }, { on := 5, ground := Ground.phase }, { on := 6, ground := Ground.phase }, { on := 7, ground := Ground.phase }, { on := 8, ground := Ground.phase }], guard := none }) (v := ?pbbv10) rfl (by kernel_rfl) (by kernel_rfl) (by kernel_rfl) (fun _ _ _ h => h) (Or.inl ⟨by rfl, ?pbbh10⟩) (by assumption) ?pbbr10
   case pbbh10 => ((intro w hSw; (try dsimp only at hSw); go_simp); try with_reducible rfl)
   try simp only [Act.put, List.setIfInBounds_toArray, List.set_cons_zero, List.set_cons_succ]
   refine wpAnyH_take (i := 11) (oi := { dst := some 46, op := Op.fieldAddr 32 (Operand.tmp 45) 1, type := 0, pos := "frag.go:67", after := #[{ on := 10, ground := Ground.data }, { on := 0, ground := Ground.phase }, { on := 1, ground := Ground.phase }, { on := 2, ground := Ground.phase }, { on := 3, ground := Ground.phase }, { on := 4, ground := Ground.phase }, { on := 5, ground := Ground.phase }, { on := 6, ground := Ground.phase }, { on := 7, ground := Ground.phase }, { on := 8, ground := Ground.phase }], guard := none }) (v := ?pbbv11) rfl (by kernel_rfl) (by kernel_rfl) (by kernel_rfl) (fun _ _ _ h => h) (Or.inl ⟨by rfl, ?pbbh11⟩) (by assumption) ?pbbr11
   case pbbh11 => ((intro w hSw; (try dsimp only at hSw); go_simp); try with_reducible rfl)
   try simp only [Act.put, List.setIfInBounds_toArray, List.set_cons_zero, List.set_cons_succ]
   refine wpAnyH_ready (rs := [12]) (by kernel_rfl) (by simp) ?_
   refine AllReadyH.cons (o := { dst := none, op := Op.store 29 (Operand.tmp 46) (Operand.tmp 43), type := 0, pos := "frag.go:67", after := #[{ on := 11, ground := Ground.data }, { on := 8, ground := Ground.data }, { on := 8, ground := Ground.chain }, { on := 0, ground := Ground.phase }, { on := 1, ground := Ground.phase }, { on := 2, ground := Ground.phase }, { on := 3, ground := Ground.phase }, { on := 4, ground := Ground.phase }, { on := 5, ground := Ground.phase }, { on := 6, ground := Ground.phase }, { on := 7, ground := Ground.phase }, { on := 8, ground := Ground.phase }], guard := none }) rfl (fun K hK => ?_) AllReadyH.nil
   go_simp; refine hK.out _ _ (HBS.out _ _ HH8.out) (fun hHeld => ?_)
   clear hK K
   try simp only [Act.put, List.setIfInBounds_toArray, List.set_cons_zero, List.set_cons_succ]
   refine wpAnyH_done (by kernel_rfl) ?_ _
   go_wp2_with fail
   go_end0
   exact HFIN.out _ _ _ HO8.out HG8.out
end Go.Proofs.Ythlingholhjcnaa
namespace Go.Proofs.Ythlingholhjcnaa
open Go.RowKit
variable {W W' w w' : World} {base : Nat}
def firstV (l : List Vv) : Vv := match l with | [] => ⟨0, ⟨#[]⟩, ⟨#[]⟩⟩ | v :: _ => v
def firstS (l : List ByteArray) : ByteArray := match l with | [] => ⟨#[]⟩ | v :: _ => v
theorem first_s (s : Sl ByteArray) (h : SlOk W (fun s : ByteArray => [Value.string s]) 16 s) : Calls Try.prog 40 #[s.val] W fun e w' => e = .returned (.string (firstS s.l)) ∧ w' = W := by
 obtain ⟨p, c, l⟩ := s
 unfold Sl.val
 cases l with
 | nil =>
  clear h
  go_enter Try.func40, Try.ntmps40
  go_wp2
  go_ret
  exact ⟨rfl, rfl⟩
 | cons a l =>
  obtain ⟨b, o, rfl, hbl, hc⟩ := h.row.at (by simp)
  have h0 := hc 0 (by simp)
  have h0 : W.cell? ⟨b, o, none⟩ = some (.string a) := h0
  have hn : (0 : Int) < ((a :: l).length : Nat) := by simp
  have hcap := h.cap
  have hn2 : ¬ ((a :: l).length : Int) ≤ 0 := by omega
  clear h hc
  generalize hnn : (a :: l).length = n at *
  have HNN := hid hnn
  clear hnn
  go_enter Try.func40, Try.ntmps40
  go_wp2
  go_ret
  exact ⟨rfl, rfl⟩
theorem first_v (s : Sl Vv) (h : SlOk W Vv.cells 40 s) : Calls Try.prog 39 #[s.val] W fun e w' => e = .returned (.agg (firstV s.l).cells.toArray) ∧ Below W.heap.size W w' := by
 obtain ⟨p, c, l⟩ := s
 unfold Sl.val
 cases l with
 | nil =>
  clear h
  go_enter Try.func39, Try.ntmps39
  go_wp2
  refine bodyPost_ret (v := .agg (firstV []).cells.toArray) (by simp [results, Try.results39, go_sem, firstV, Vv.cells]) rfl ?_
  exact ⟨rfl, by repeat' (first | exact Below.refl _ _ | refine Below.setCell ?_ (by simp <;> omega) _ | refine Below.alloc ?_ (by simp <;> omega) _)⟩
 | cons a l =>
  obtain ⟨b, o, rfl, hbl, hc⟩ := h.row.at (by simp [Vv.cells])
  obtain ⟨v0, v1, v2⟩ := vv_cells h.row 0 (by simp)
  simp only [Nat.zero_mul, Nat.add_zero, List.getElem_cons_zero] at v0 v1 v2
  have hn : (0 : Int) < ((a :: l).length : Nat) := by simp
  have hcap := h.cap
  have hn2 : ¬ ((a :: l).length : Int) ≤ 0 := by omega
  clear h hc
  generalize hnn : (a :: l).length = n at *
  have HNN := hid hnn
  clear hnn
  go_enter Try.func39, Try.ntmps39
  go_wp2
  refine bodyPost_ret (v := .agg (firstV (a :: l)).cells.toArray) (by simp [results, Try.results39, go_sem, firstV, Vv.cells]) rfl ?_
  exact ⟨rfl, by repeat' (first | exact Below.refl _ _ | refine Below.setCell ?_ (by simp <;> omega) _ | refine Below.alloc ?_ (by simp <;> omega) _)⟩
theorem ocs_ones (l : List Oc) : ∀ u ∈ l.flatMap Oc.cells, u.oneCell' = true := fun u hu => by
 obtain ⟨c, _, h⟩ := List.mem_flatMap.1 hu
 exact oc_ones c u h
set_option maxHeartbeats 1000000 in
theorem cloneO_any (s : Sl Oc) (h : SlOk w Oc.cells 120 s) : Calls Try.prog 48 #[s.val] w fun e w' => ∃ v, e = .returned v ∧ w'.ownsRow w.heap.size 72 15 v s.l.length (s.l.flatMap Oc.cells) ∧ Below w.heap.size w w' := by
 obtain ⟨p, c, l⟩ := s
 obtain ⟨hrow, hlen, hcap, hp⟩ := h
 dsimp only at hrow hlen hcap hp
 unfold Sl.val
 have hcl := flat_len Oc.cells 15 (fun _ => rfl) l
 cases p with
 | none =>
  have hc := hp rfl
  subst hc
  have h0 : l = [] := by
   apply Classical.byContradiction
   intro hne
   have := List.length_pos_iff.2 hne
   obtain ⟨b, o, e, _⟩ := hrow.at (by omega)
   cases e
  subst h0
  have hnil := fun (w : World) => Lib.run_eql_slice_nil (P := Try.prog) w 23 72 none 0 0 0 0 Try.underlying23
  go_enter Try.func48, Try.ntmps48
  go_wp2
  go_ret
  exact ⟨_, rfl, World.ownsRow_nil _ _ _ _, Below.refl _ _⟩
 | some a =>
  have hnil := fun (w : World) (n c : Nat) => Lib.run_eql_slice_nil (P := Try.prog) w 23 72 (some a) n c 0 0 Try.underlying23
  have HCL := hid hcl
  clear hcl
  go_enter Try.func48, Try.ntmps48
  go_wp2_with ((with_reducible show wpList _ _ _ (⟨some 7, _, _, _, _, _⟩ :: _) _ _); go_loud (refine wpList_app EOper rfl _ _ rfl w.heap.size _ 0 [] rfl (own_new w [] 72 w.heap.size 0 15 (Nat.le_refl _) rfl (by decide)) _ _ _ (l.flatMap Oc.cells) rfl (by rw [HCL.out]; omega) hp (hrow.alloc _) (ocs_ones l) (by unfold maxLen; omega) (by omega) (by simp) ?_); intro v2 w2 ho2 hg2 hs2; rw [Nat.zero_add, List.nil_append] at ho2)
  have hg2 : (w.alloc (.cells #[] 72)).grownBy w2 (some w.heap.size) := hg2
  go_ret
  exact ⟨v2, rfl, ho2, ((Below.refl _ _).alloc (Nat.le_refl _) _).grown hg2 (by simp) (by rintro k e; cases e; exact Nat.le_refl _)⟩
theorem sl_of_own {α : Type} {f : α → List Value} {base bytes size : Nat} {e : TypeId} {v : Value} {l : List α} (ho : w.ownsRow base e size v l.length (l.flatMap f)) (hb : l.length * bytes ≤ 140737488351232) :
  ∃ p c, v = .slice p l.length c ∧ SlOk w f bytes ⟨p, c, l⟩ ∧ ∀ a, p = some a → tagAt w a.block = some (e + 1) ∧ base ≤ a.block := by
 obtain ⟨p, c, e1, hnc, hcm, hr, hp0, hge⟩ := own_row ho
 refine ⟨p, c, e1, ⟨hr, hnc, hb, ?_⟩, fun a ha => ⟨?_, hge a ha⟩⟩
 ·rintro rfl
  rcases ho.2 with ⟨e2, _⟩ | ⟨g, cap, cur, e2, _⟩
  ·rw [e1] at e2; injection e2
  ·rw [e1] at e2; injection e2 with e3; cases e3
 ·subst ha
  exact own_tag ho (by rw [e1]; rfl)
structure CloneT (W : World) (x : LnR) (e : Ending) (w' : World) : Prop where
 a : ∃ (p : Option Addr) (c : Nat), e = .returned (.agg #[.string x.name, .slice p x.opers.l.length c]) ∧ SlOk w' Oc.cells 120 ⟨p, c, x.opers.l⟩ ∧ ∀ a, p = some a → tagAt w' a.block = some (72 + 1)
 b : Below W.heap.size W w'
set_option maxHeartbeats 1000000 in
theorem clone_any (x : LnR) (h : SlOk W Oc.cells 120 x.opers) : Calls Try.prog 28 #[.agg x.cells.toArray] W (CloneT W x) := by
 obtain ⟨W2, hW2⟩ : ∃ W2, W2 = (W.alloc (.cells x.cells.toArray 25)).alloc (.cells #[.string ⟨#[]⟩, .slice none 0 0] 25) := ⟨_, rfl⟩
 have hb2 : Below W.heap.size W W2 := by rw [hW2]; exact ((Below.refl _ _).alloc (Nat.le_refl _) _).alloc (by simp) _
 have hz2 : W2.heap.size = W.heap.size + 2 := by rw [hW2]; simp
 have g1 : W2.heap[W.heap.size]? = some (.cells x.cells.toArray 25 (0, 0)) := by rw [hW2]; exact (Below.heap_alloc _ _ _ (by simp)).trans (heap_alloc_new _ _)
 have g2 : W2.heap[W.heap.size + 1]? = some (.cells #[.string ⟨#[]⟩, .slice none 0 0] 25 (0, 0)) := by
  have := heap_alloc_new (W.alloc (.cells x.cells.toArray 25)) (.cells #[.string ⟨#[]⟩, .slice none 0 0] 25)
  rw [World.size_alloc] at this
  rw [hW2]; exact this
 have y1 : W2.cell? ⟨W.heap.size, 1, none⟩ = some x.opers.val := cell_of_row _ _ 1 _ _ _ g1
 have HC := hid (cloneO_any x.opers (h.below hb2))
 have HW := hid hW2
 have HB2 := hid hb2
 have HG := hid (And.intro g1 g2)
 have HL : Hid (x.opers.l.length * 120 ≤ 140737488351232) := h.cap
 clear h hW2 hb2 g1 g2
 go_enter Try.func28, Try.ntmps28
 go_upto_region 1 with (fail)
 rw [← HW.out]
 go_wp2_with (go_at_call 48; (with_reducible refine HC.out.mono ?_); rintro e w3 ⟨v, rfl, ho3, hb3⟩; obtain ⟨sp, sc, rfl, hso, hst⟩ := sl_of_own (bytes := 120) ho3 HL.out; have HSO := hid (And.intro hso hst); have HB3 := hid hb3; have g1 := (hb3.block _ (by omega : W.heap.size < W2.heap.size)).trans HG.out.1; have g2 := (hb3.block _ (by omega : W.heap.size + 1 < W2.heap.size)).trans HG.out.2; have HG1 := hid g1; have HG2 := hid g2; have z1 := frozen_of_row _ _ 1 _ _ g1; have z0 := frozen_of_row _ _ 0 _ _ g1; have y0 : w3.cell? ⟨W.heap.size, 0, none⟩ = some (.string x.name) := cell_of_row _ _ 0 _ _ _ g1; have y1' : w3.cell? ⟨W.heap.size, 1, none⟩ = some x.opers.val := cell_of_row _ _ 1 _ _ _ g1; have u0 : w3.cell? ⟨W.heap.size + 1, 0, none⟩ = some (.string ⟨#[]⟩) := cell_of_row _ _ 0 _ _ _ g2; have u1 : w3.cell? ⟨W.heap.size + 1, 1, none⟩ = some (.slice none 0 0) := cell_of_row _ _ 1 _ _ _ g2; have v0 := frozen_of_row _ _ 0 _ _ g2; have v1 := frozen_of_row _ _ 1 _ _ g2; clear hso hst hb3 ho3 g1 g2)
 obtain ⟨W9, hW9⟩ : ∃ W9, W9 = ((w3.setCell ⟨W.heap.size, 1, none⟩ (.slice sp x.opers.l.length sc)).setCell ⟨W.heap.size + 1, 0, none⟩ (.string x.name)).setCell ⟨W.heap.size + 1, 1, none⟩ (.slice sp x.opers.l.length sc) := ⟨_, rfl⟩
 have h9 : W9.heap[W.heap.size + 1]? = some (.cells #[.string x.name, .slice sp x.opers.l.length sc] 25 (0, 0)) := by
  rw [hW9]
  exact heap_setCell_same _ _ 1 _ _ _ (heap_setCell_same _ _ 0 _ _ _ ((heap_setCell_other _ _ _ _ (by simp)).trans HG2.out))
 have r0 := cell_of_row _ _ 0 _ _ _ h9
 have r1 := cell_of_row _ _ 1 _ _ _ h9
 simp only [List.getElem?_toArray, List.getElem?_cons_zero, List.getElem?_cons_succ] at r0 r1
 have ho9 : ∀ q, q ≠ W.heap.size → q ≠ W.heap.size + 1 → W9.heap[q]? = w3.heap[q]? := fun q h1 h2 => by
  rw [hW9]; exact (heap_setCell_other _ _ _ _ h2).trans ((heap_setCell_other _ _ _ _ h2).trans (heap_setCell_other _ _ _ _ h1))
 have t1 : tagAt w3 W.heap.size = some (25 + 1) := tag_row HG1.out
 have t2 : tagAt w3 (W.heap.size + 1) = some (25 + 1) := tag_row HG2.out
 have hb9 : Below W.heap.size W W9 := by
  rw [hW9]
  exact (((HB2.out.trans (HB3.out.mono HB2.out.size)).setCell (Nat.le_refl _) _).setCell (Nat.le_succ _) _).setCell (Nat.le_succ _) _
 have hkt : ∀ a, sp = some a → W9.heap[a.block]? = w3.heap[a.block]? := fun a ha => ho9 _ (tag_ne (HSO.out.2 a ha).1 t1 (by decide)) (tag_ne (HSO.out.2 a ha).1 t2 (by decide))
 rw [← hW9]
 clear hW9
 refine bodyPost_ret (v := .agg #[.string x.name, .slice sp x.opers.l.length sc]) (by simp [results, Try.results28, go_sem, r0, r1]) rfl ?_
 have q := HSO.out.1
 exact ⟨⟨sp, sc, rfl, ⟨row_blk q.row hkt, q.len, q.cap, q.nil⟩, fun a ha => tag_blk (HSO.out.2 a ha).1 (hkt a ha)⟩, hb9⟩
structure BCloneT (W : World) (s : Sl Int) (e : Ending) (w' : World) : Prop where
 a : ∃ p c, e = .returned (.slice p s.l.length c) ∧ SlOk w' (fun n : Int => [Value.int .u8 n]) 1 ⟨p, c, s.l⟩ ∧ ∀ a, p = some a → tagAt w' a.block = some (5 + 1)
 b : Below W.heap.size W w'
theorem map_flat1 {α : Type} (f : α → Value) : ∀ l : List α, l.map f = l.flatMap (fun x => [f x])
 | [] => rfl
 | a :: l => by rw [List.map_cons, List.flatMap_cons, map_flat1 f l]; rfl
theorem bclone_any (s : Sl Int) (h : SlOk W (fun n : Int => [Value.int .u8 n]) 1 s) : Calls Try.prog 29 #[s.val] W (BCloneT W s) := by
 obtain ⟨p, c, l⟩ := s
 obtain ⟨hrow, hlen, hcap, hp⟩ := h
 dsimp only at hrow hlen hcap hp
 cases p with
 | none =>
  have hl : l = [] := by
   apply Classical.byContradiction
   intro hne
   have := List.length_pos_iff.2 hne
   obtain ⟨b, o, e, _⟩ := hrow.at (by rw [← map_flat1]; simpa using this)
   cases e
  subst hl
  refine (Try.bytes_Clone_nil _ _ W).mono ?_
  rintro e w' ⟨rfl, rfl⟩
  exact ⟨⟨none, 0, rfl, ⟨Row.nil _ _, Nat.le_refl _, by simp, fun _ => rfl⟩, fun a ha => (by cases ha)⟩, Below.refl _ _⟩
 | some a =>
  refine (Try.bytes_Clone_at a l.length c l W rfl (by omega) (fun i hi => ?_)).mono ?_
  ·rw [← map_flat1] at hrow
   obtain ⟨b, o, e, hc⟩ := hrow (by intro e; rw [List.map_eq_nil_iff] at e; subst e; simp at hi)
   cases e
   rw [addr_add, hc i (by simpa using hi)]
   simp [List.getD_eq_getElem?_getD, hi]
  ·rintro e w' ⟨v, rfl, ho, -, hb⟩
   rw [map_flat1] at ho
   obtain ⟨p2, c2, rfl, h2, h3⟩ := sl_of_own (bytes := 1) ho hcap
   exact ⟨⟨p2, c2, rfl, h2, fun a ha => (h3 a ha).1⟩, hb⟩
end Go.Proofs.Ythlingholhjcnaa
namespace Go.Proofs.Ythlingholhjcnaa
open Go.RowKit
variable {W W' w w' : World} {base m mb : Nat} {X X' : FV} {file line : Int} {name : ByteArray} {nm : List ByteArray}
def v00 : Vv := ⟨0, ⟨#[]⟩, ⟨#[]⟩⟩
def pc0 : Pc := ⟨0, 0, 0, ⟨#[]⟩, [], v00, 0, [], 0⟩
def FP.told1 (S : FP) (file line : Int) (n : ByteArray) : FP := if 255 < n.size then S.fault file line 3 else { S with gs := S.gs ++ [⟨n, file, line⟩] }
def FP.told (S : FP) (file line : Int) (l : List ByteArray) : FP := l.foldl (fun S n => S.told1 file line n) S
def FP.data1 (S : FP) (file line : Int) (name : ByteArray) (size : Int) (v : Vv) : FP := S.put file line name { pc0 with kind := 3, v := v, size := size } (decide (v = v00))
def FP.data (S : FP) (file line : Int) (name : ByteArray) (size : Int) (l : List Vv) : FP := l.foldl (fun S v => S.data1 file line name size v) S
def FP.stmt (S : FP) (file line : Int) (name : ByteArray) (s : StR) : FP × ByteArray :=
 if s.kind = 1 then (S.put file line name { pc0 with kind := if (growsP s.l.name s.l.opers.l).2.2 then 2 else 1, name := s.l.name, opers := s.l.opers.l } false, name)
 else if s.kind = 4 then (S.put file line name { pc0 with kind := 5, align := (firstV s.values.l).add } true, name)
 else if s.kind = 5 then (S.data file line name s.size s.values.l, name)
 else if s.kind = 6 then (S.put file line name { pc0 with kind := 4, b := s.bytes.l } (decide (s.bytes.l.length = 0)), name)
 else if s.kind = 2 then (if 32 < (firstS s.names.l).size then (S.fault file line 3, name) else ((S.part file line (firstS s.names.l)).1, firstS s.names.l))
 else if s.kind = 7 then (S.mark file line name (firstS s.names.l) true (firstV s.values.l), name)
 else if s.kind = 3 then (S.told file line s.names.l, name)
 else (S, name)
def StmtT (W : World) (base m mb : Nat) (file line : Int) (R : FP × ByteArray) (n : Nat) (e : Ending) (w' : World) : Prop :=
 e = .returned (.tuple #[]) ∧ Trn base W w' ∧ ∃ X', CIs w' base m mb X' file line R.2 ∧ X'.pl = R.1 ∧ Sm X' n
theorem Sm.mono {n k : Nat} (h : Sm X n) (hk : n ≤ k) : Sm X k := ⟨Nat.le_trans h.ps hk, Nat.le_trans h.ms hk, Nat.le_trans h.gs hk, Nat.le_trans h.fs hk, fun y hy => Nat.le_trans (h.pcs y hy) hk⟩
structure StB (W W1 : World) (s : StR) : Prop where
 eq : W1 = W.alloc (.cells s.cells.toArray 57)
 blk : W1.heap[W.heap.size]? = some (.cells s.cells.toArray 57 (0, 0))
 b : Below W.heap.size W W1
theorem stb (W : World) (s : StR) : StB W (W.alloc (.cells s.cells.toArray 57)) s := ⟨rfl, heap_alloc_new _ _, alloc_below _ _⟩
theorem st_cells {b : Nat} {s : StR} (h : W.heap[b]? = some (.cells s.cells.toArray 57 (0, 0))) : W.cell? ⟨b, 0, none⟩ = some s.labels.val ∧ W.cell? ⟨b, 1, none⟩ = some (.int .i64 s.kind) ∧ W.cell? ⟨b, 2, none⟩ = some (.string s.l.name) ∧ W.cell? ⟨b, 3, none⟩ = some s.l.opers.val ∧ W.cell? ⟨b, 4, none⟩ = some s.names.val ∧ W.cell? ⟨b, 5, none⟩ = some (.int .i64 s.size) ∧ W.cell? ⟨b, 6, none⟩ = some s.values.val ∧ W.cell? ⟨b, 7, none⟩ = some s.bytes.val :=
 ⟨cell_of_row _ _ 0 _ _ _ h, cell_of_row _ _ 1 _ _ _ h, cell_of_row _ _ 2 _ _ _ h, cell_of_row _ _ 3 _ _ _ h, cell_of_row _ _ 4 _ _ _ h, cell_of_row _ _ 5 _ _ _ h, cell_of_row _ _ 6 _ _ _ h, cell_of_row _ _ 7 _ _ _ h⟩
set_option maxRecDepth 20000 in
set_option maxHeartbeats 4000000 in
theorem stmt_inst (h : CIs W base m mb X file line name) {n : Nat} (hn : Sm X n) (hn2 : n ≤ 4000000) (s : StR) (hs : s.ok W) (hk : s.kind = 1) :
  Calls Try.prog 23 #[.pointer (some ⟨m, 0, none⟩), .agg s.cells.toArray] W (StmtT W base m mb file line (X.pl.stmt file line name s) (n + 1)) := by
 obtain ⟨W1, hW1⟩ : ∃ W1, StB W W1 s := ⟨_, stb W s⟩
 obtain ⟨y0, y1, y2, y3, y4, y5, y6, y7⟩ := st_cells hW1.blk
 rw [hk] at y1
 have HW := hid hW1
 have HC := hid h
 have HN := hid hn
 have h1 := h.below hW1.b
 have H1 := hid h1
 have hl1 : SlOk W1 Oc.cells 120 s.l.opers := hs.l.opers.1.below hW1.b
 have HG := hid (grows_any s.l hl1)
 have HL := hid hl1
 obtain ⟨R, hR⟩ : ∃ R, R = X.pl.stmt file line name s := ⟨_, rfl⟩
 have HR : Hid (R = (X.pl.put file line name { pc0 with kind := if (growsP s.l.name s.l.opers.l).2.2 then 2 else 1, name := s.l.name, opers := s.l.opers.l } false, name)) := by unfold Hid; rw [hR]; unfold FP.stmt; rw [if_pos hk]
 unfold LnR.cells at HG
 unfold GrowsT at HG
 have HPUT : Hid (∀ (w3 : World) (k : Int) (sp : Option Addr) (sc : Nat), Below W1.heap.size W1 w3 → SlOk w3 Oc.cells 120 ⟨sp, sc, s.l.opers.l⟩ → (∀ a, sp = some a → tagAt w3 a.block = some (72 + 1)) →
   Calls Try.prog 38 #[.pointer (some ⟨m, 0, none⟩), .agg #[.int .i64 k, .int .i64 0, .int .i64 0, .string s.l.name, .slice sp s.l.opers.l.length sc, .int .i64 0, .string ⟨#[]⟩, .string ⟨#[]⟩, .int .i64 0, .slice none 0 0, .int .i64 0], .bool false] w3
    (PutT w3 base m mb X file line name (X.pl.put file line name { pc0 with kind := k, name := s.l.name, opers := s.l.opers.l } false) (n + 1))) := fun w3 k sp sc hb ho ht =>
  put_any (H1.out.below hb) HN.out hn2 ⟨k, 0, 0, ⟨s.l.name, ⟨sp, sc, s.l.opers.l⟩⟩, v00, 0, ⟨none, 0, []⟩, 0⟩ ⟨ho, fun a ha => .inr (ht a ha), ⟨Row.nil _ _, Nat.le_refl _, by simp, fun _ => rfl⟩, fun a ha => (by cases ha)⟩ false
 rw [← hR]
 clear h hn hW1 hs h1 hl1 hR hk y0 y4 y5 y6 y7
 go_enter Try.func23, Try.ntmps23
 go_upto_region 1 with (fail)
 rw [← HW.out.eq]
 generalize growsP s.l.name s.l.opers.l = gp at *
 go_wp2_with (first
  | (go_at_call 11; (with_reducible refine HG.out.mono ?_); rintro e w2 ⟨rfl, hb2⟩; have HB2 := hid hb2; have HCL := hid (clone_any s.l (HL.out.below hb2)); have q1 := (hb2.block _ (tag_lt (tag_row HW.out.blk))).trans HW.out.blk; obtain ⟨-, -, x2, x3, -, -, -, -⟩ := st_cells q1; clear hb2 q1; unfold LnR.cells at HCL)
  | (go_at_call 28; (with_reducible refine HCL.out.mono ?_); rintro e w3 ⟨⟨sp, sc, rfl, hso, hst⟩, hb3⟩; have HB3 := hid (HB2.out.trans (hb3.mono HB2.out.size)); have HPP := hid (fun k => HPUT.out w3 k sp sc HB3.out hso hst); clear hso hst hb3)
  | (go_at_call 38; (with_reducible refine (HPP.out _).mono ?_); rintro e w4 ⟨rfl, ht4, X4, h4, hp4, hs4⟩; have H4 := hid (And.intro ht4 (And.intro h4 (And.intro hp4 hs4))); clear ht4 h4 hp4 hs4))
 all_goals go_end0
 all_goals refine ⟨rfl, ((TrnP.below HW.out.b HC.out.hz).trans (TrnP.below HB3.out H1.out.hz)).trans H4.out.1, X4, by rw [HR.out]; exact H4.out.2.1, ?_, H4.out.2.2.2⟩
 all_goals (rw [H4.out.2.2.1, HR.out]; simp [*])
end Go.Proofs.Ythlingholhjcnaa
namespace Go.Proofs.Ythlingholhjcnaa
open Go.RowKit
variable {W W' w w' : World} {base m mb : Nat} {X X' : FV} {file line : Int} {name : ByteArray} {nm : List ByteArray}
def StBx (b : Nat) (s : StR) (w' : World) : Prop := w'.heap[b]? = some (.cells s.cells.toArray 57 (0, 0))
theorem PcOk.nil (W : World) (base : Nat) (k f l : Int) (n : ByteArray) (v : Vv) (sz al : Int) : PcOk W base ⟨k, f, l, ⟨n, ⟨none, 0, []⟩⟩, v, sz, ⟨none, 0, []⟩, al⟩ :=
 ⟨⟨Row.nil _ _, Nat.le_refl _, by simp, fun _ => rfl⟩, fun a ha => (by cases ha), ⟨Row.nil _ _, Nat.le_refl _, by simp, fun _ => rfl⟩, fun a ha => (by cases ha)⟩
theorem StmtT.of_put {R : FP × ByteArray} {n : Nat} {W3 : World} {e : Ending} {S : FP} (ht : Trn base W W3) (h : PutT W3 base m mb X file line name S n e w') (hR : R = (S, name)) : StmtT W base m mb file line R n e w' := by
 obtain ⟨h1, h2, X', h3, h4, h5⟩ := h
 subst hR
 exact ⟨h1, ht.trans h2, X', h3, h4, h5⟩
set_option maxRecDepth 20000 in
set_option maxHeartbeats 4000000 in
theorem stmt_align (h : CIs W base m mb X file line name) {n : Nat} (hn : Sm X n) (hn2 : n ≤ 4000000) (s : StR) (hs : s.ok W) (hk : s.kind = 4) :
  Calls Try.prog 23 #[.pointer (some ⟨m, 0, none⟩), .agg s.cells.toArray] W (StmtT W base m mb file line (X.pl.stmt file line name s) (n + 1)) := by
 obtain ⟨W1, hW1⟩ : ∃ W1, StB W W1 s := ⟨_, stb W s⟩
 obtain ⟨y0, y1, y2, y3, y4, y5, y6, y7⟩ := st_cells hW1.blk
 rw [hk] at y1
 have HW := hid hW1
 have HC := hid h
 have HN := hid hn
 have h1 := h.below hW1.b
 have H1 := hid h1
 have HV := hid (first_v s.values (hs.values.1.below hW1.b))
 obtain ⟨R, hR⟩ : ∃ R, R = X.pl.stmt file line name s := ⟨_, rfl⟩
 have HR : Hid (R = (X.pl.put file line name { pc0 with kind := 5, align := (firstV s.values.l).add } true, name)) := by unfold Hid; rw [hR]; unfold FP.stmt; rw [if_neg (by omega), if_pos hk]
 have HPUT : Hid (∀ (w3 : World) (al : Int), Below W1.heap.size W1 w3 →
   Calls Try.prog 38 #[.pointer (some ⟨m, 0, none⟩), .agg #[.int .i64 5, .int .i64 0, .int .i64 0, .string ⟨#[]⟩, .slice none 0 0, .int .i64 0, .string ⟨#[]⟩, .string ⟨#[]⟩, .int .i64 0, .slice none 0 0, .int .i64 al], .bool true] w3
    (PutT w3 base m mb X file line name (X.pl.put file line name { pc0 with kind := 5, align := al } true) (n + 1))) := fun w3 al hb =>
  put_any (H1.out.below hb) HN.out hn2 ⟨5, 0, 0, ⟨⟨#[]⟩, ⟨none, 0, []⟩⟩, v00, 0, ⟨none, 0, []⟩, al⟩ (PcOk.nil _ _ _ _ _ _ _ _ _) true
 generalize firstV s.values.l = fv at *
 have hfd : ∀ w1 : World, (Instr.field 62 (.agg #[.int .i64 fv.add, .string fv.plus, .string fv.minus]) 0).run Try.prog w1 = .ok (.int .i64 fv.add) w1 := fun w1 => by kernel_rfl
 unfold Vv.cells at HV
 rw [← hR]
 clear h hn hW1 hs h1 hR hk y0 y2 y3 y4 y5 y7
 go_enter Try.func23, Try.ntmps23
 go_upto_region 1 with (fail)
 rw [← HW.out.eq]
 go_wp2_with (first
  | (go_at_call 39; (with_reducible refine HV.out.mono ?_); rintro e w2 ⟨rfl, hb2⟩; have HB2 := hid hb2; clear hb2)
  | (go_at_call 38; (with_reducible refine (HPUT.out _ _ HB2.out).mono ?_); rintro e w4 hput; have HPT := hid hput; obtain ⟨rfl, -⟩ := hput))
 go_end0
 exact StmtT.of_put ((TrnP.below HW.out.b HC.out.hz).trans (TrnP.below HB2.out H1.out.hz)) HPT.out HR.out
set_option maxRecDepth 20000 in
set_option maxHeartbeats 4000000 in
theorem stmt_ascii (h : CIs W base m mb X file line name) {n : Nat} (hn : Sm X n) (hn2 : n ≤ 4000000) (s : StR) (hs : s.ok W) (hk : s.kind = 6) :
  Calls Try.prog 23 #[.pointer (some ⟨m, 0, none⟩), .agg s.cells.toArray] W (StmtT W base m mb file line (X.pl.stmt file line name s) (n + 1)) := by
 obtain ⟨W1, hW1⟩ : ∃ W1, StB W W1 s := ⟨_, stb W s⟩
 obtain ⟨y0, y1, y2, y3, y4, y5, y6, y7⟩ := st_cells hW1.blk
 rw [hk] at y1
 have HW := hid hW1
 have HC := hid h
 have HN := hid hn
 have h1 := h.below hW1.b
 have H1 := hid h1
 have HBC := hid (bclone_any s.bytes ((hs.bytes.1.below hW1.b).below (Below.refl _ W1).drew))
 obtain ⟨R, hR⟩ : ∃ R, R = X.pl.stmt file line name s := ⟨_, rfl⟩
 have HR : Hid (R = (X.pl.put file line name { pc0 with kind := 4, b := s.bytes.l } (decide (s.bytes.l.length = 0)), name)) := by unfold Hid; rw [hR]; unfold FP.stmt; rw [if_neg (by omega), if_neg (by omega), if_neg (by omega), if_pos hk]
 have HPUT : Hid (∀ (w3 : World) (p : Option Addr) (c : Nat), Below W1.heap.size W1 w3 → SlOk w3 (fun n : Int => [Value.int .u8 n]) 1 ⟨p, c, s.bytes.l⟩ → (∀ a, p = some a → tagAt w3 a.block = some (5 + 1)) →
   Calls Try.prog 38 #[.pointer (some ⟨m, 0, none⟩), .agg #[.int .i64 4, .int .i64 0, .int .i64 0, .string ⟨#[]⟩, .slice none 0 0, .int .i64 0, .string ⟨#[]⟩, .string ⟨#[]⟩, .int .i64 0, .slice p s.bytes.l.length c, .int .i64 0], .bool (decide (s.bytes.l.length = 0))] w3
    (PutT w3 base m mb X file line name (X.pl.put file line name { pc0 with kind := 4, b := s.bytes.l } (decide (s.bytes.l.length = 0))) (n + 1))) := fun w3 p c hb ho ht =>
  put_any (H1.out.below hb) HN.out hn2 ⟨4, 0, 0, ⟨⟨#[]⟩, ⟨none, 0, []⟩⟩, v00, 0, ⟨p, c, s.bytes.l⟩, 0⟩ ⟨⟨Row.nil _ _, Nat.le_refl _, by simp, fun _ => rfl⟩, fun a ha => (by cases ha), ho, fun a ha => .inr (ht a ha)⟩ _
 have hdz : (((s.bytes.l.length : Nat) : Int) == 0) = decide (s.bytes.l.length = 0) := by
  rw [Bool.eq_iff_iff]; simp
 have HH0 : Hid (StBx W.heap.size s W1.drew) := hW1.blk
 have k6 : ∀ w' : World, StBx W.heap.size s w' → w'.cell? ⟨W.heap.size, 7, none⟩ = some (.slice s.bytes.p s.bytes.l.length s.bytes.c) := fun w' h => (st_cells h).2.2.2.2.2.2.2
 unfold Sl.val at HBC
 rw [← hR]
 clear h hn hW1 hs h1 hR hk y0 y2 y3 y4 y5 y6 y7
 generalize hdd : decide (s.bytes.l.length = 0) = dd at *
 clear hdd
 go_enter Try.func23, Try.ntmps23
 go_upto_region 1 with (fail)
 rw [← HW.out.eq]
 go_upto_region 17 with (fail)
 refine wp_region_held_drew (S := StBx W.heap.size s) (by kernel_rfl) HH0.out (fun hHeld => ?_)
 refine wpAnyH_take (i := 0) (oi := { dst := some 62, op := Op.move (Operand.tmp 0), type := 75, pos := "frag.go:112", after := #[], guard := none }) (v := ?pav0) rfl (by kernel_rfl) (by kernel_rfl) (by kernel_rfl) (fun _ _ _ h => h) (Or.inl ⟨by rfl, ?pah0⟩) (by assumption) ?par0
 case pah0 => ((intro w hSw; (try dsimp only at hSw); go_simp); try with_reducible rfl)
 try simp only [Act.put, List.setIfInBounds_toArray, List.set_cons_zero, List.set_cons_succ]
 refine wpAnyH_take (i := 1) (oi := { dst := some 63, op := Op.fieldAddr 57 (Operand.tmp 3) 6, type := 0, pos := "frag.go:112", after := #[], guard := none }) (v := ?pav1) rfl (by kernel_rfl) (by kernel_rfl) (by kernel_rfl) (fun _ _ _ h => h) (Or.inl ⟨by rfl, ?pah1⟩) (by assumption) ?par1
 case pah1 => ((intro w hSw; (try dsimp only at hSw); go_simp); try with_reducible rfl)
 try simp only [Act.put, List.setIfInBounds_toArray, List.set_cons_zero, List.set_cons_succ]
 refine wpAnyH_take (i := 2) (oi := { dst := some 64, op := Op.load 55 (Operand.tmp 63), type := 55, pos := "frag.go:112", after := #[{ on := 1, ground := Ground.data }], guard := none }) (v := ?pav2) rfl (by kernel_rfl) (by kernel_rfl) (by kernel_rfl) (fun _ _ _ h => h) (Or.inl ⟨by rfl, ?pah2⟩) (by assumption) ?par2
 case pah2 => ((intro w hSw; (try dsimp only at hSw); go_simp); try with_reducible rfl)
 try simp only [Act.put, List.setIfInBounds_toArray, List.set_cons_zero, List.set_cons_succ]
 refine wpAnyH_take (i := 5) (oi := { dst := some 67, op := Op.fieldAddr 57 (Operand.tmp 3) 6, type := 0, pos := "frag.go:112", after := #[], guard := none }) (v := ?pav5) rfl (by kernel_rfl) (by kernel_rfl) (by kernel_rfl) (fun _ _ _ h => h) (Or.inl ⟨by rfl, ?pah5⟩) (by assumption) ?par5
 case pah5 => ((intro w hSw; (try dsimp only at hSw); go_simp); try with_reducible rfl)
 try simp only [Act.put, List.setIfInBounds_toArray, List.set_cons_zero, List.set_cons_succ]
 refine wpAnyH_take (i := 6) (oi := { dst := some 68, op := Op.load 55 (Operand.tmp 67), type := 55, pos := "frag.go:112", after := #[{ on := 5, ground := Ground.data }], guard := none }) (v := ?pav6) rfl (by kernel_rfl) (by kernel_rfl) (by kernel_rfl) (fun _ _ _ h => h) (Or.inl ⟨by rfl, ?pah6⟩) (by assumption) ?par6
 case pah6 => ((intro w hSw; (try dsimp only at hSw); go_simp); try with_reducible rfl)
 try simp only [Act.put, List.setIfInBounds_toArray, List.set_cons_zero, List.set_cons_succ]
 refine wpAnyH_take (i := 7) (oi := { dst := some 69, op := Op.call { callee := Callee.builtin Builtin.len, args := #[Operand.tmp 68], argTypes := #[55] }, type := 3, pos := "frag.go:112", after := #[{ on := 6, ground := Ground.data }], guard := none }) (v := ?pav7) rfl (by kernel_rfl) (by kernel_rfl) (by kernel_rfl) (fun _ _ _ h => h) (Or.inl ⟨by rfl, ?pah7⟩) (by assumption) ?par7
 case pah7 => ((intro w hSw; (try dsimp only at hSw); go_simp); try with_reducible rfl)
 try simp only [Act.put, List.setIfInBounds_toArray, List.set_cons_zero, List.set_cons_succ]
 refine wpAnyH_take (i := 8) (oi := { dst := some 70, op := Op.binOp BinOp.eql 3 (Operand.tmp 69) (Operand.const (Value.int IntKind.i64 0)) 3, type := 4, pos := "frag.go:112", after := #[{ on := 7, ground := Ground.data }], guard := none }) (v := ?pav8) rfl (by kernel_rfl) (by kernel_rfl) (by kernel_rfl) (fun _ _ _ h => h) (Or.inl ⟨by rfl, ?pah8⟩) (by assumption) ?par8
 case pah8 => ((intro w hSw; (try dsimp only at hSw); go_simp); try with_reducible rfl)
 try simp only [Act.put, List.setIfInBounds_toArray, List.set_cons_zero, List.set_cons_succ]
 refine wpAnyH_ready (rs := [3]) (by kernel_rfl) (by simp) ?_
 refine AllReadyH.cons (o := { dst := some 65, op := Op.call { callee := Callee.value (Operand.func 29), args := #[Operand.tmp 64], argTypes := #[55] }, type := 55, pos := "frag.go:112", after := #[{ on := 2, ground := Ground.data }], guard := none }) rfl (fun K hK => ?_) AllReadyH.nil
 go_simp; go_at_call 29; (with_reducible refine HBC.out.mono ?_); rintro e w2 ⟨⟨p, c, rfl, ho2, ht2⟩, hb2⟩; have HB2 := hid ((Below.refl _ W1).drew.trans hb2); have HP2 := hid (HPUT.out w2 p c ((Below.refl _ W1).drew.trans hb2) ho2 ht2); have HS2 : Hid (StBx W.heap.size s w2) := (hb2.block _ (tag_lt (tag_row HH0.out))).trans HH0.out; clear ho2 ht2 hb2; refine hK.out _ _ HS2.out (fun hHeld => ?_)
 clear hK K
 try simp only [Act.put, List.setIfInBounds_toArray, List.set_cons_zero, List.set_cons_succ]
 refine wpAnyH_take (i := 4) (oi := { dst := some 66, op := Op.build 64 #[(0, Operand.const (Value.int IntKind.i64 4)), (6, Operand.tmp 65)], type := 64, pos := "frag.go:112", after := #[{ on := 3, ground := Ground.data }], guard := none }) (v := ?pav4) rfl (by kernel_rfl) (by kernel_rfl) (by kernel_rfl) (fun _ _ _ h => h) (Or.inl ⟨by rfl, ?pah4⟩) (by assumption) ?par4
 case pah4 => ((intro w hSw; (try dsimp only at hSw); go_simp); try with_reducible rfl)
 try simp only [Act.put, List.setIfInBounds_toArray, List.set_cons_zero, List.set_cons_succ]
 refine wpAnyH_ready (rs := [9]) (by kernel_rfl) (by simp) ?_
 refine AllReadyH.cons (o := { dst := some 71, op := Op.call { callee := Callee.value (Operand.func 38), args := #[Operand.tmp 62, Operand.tmp 66, Operand.tmp 70], argTypes := #[75, 64, 4] }, type := 0, pos := "frag.go:112", after := #[{ on := 0, ground := Ground.data }, { on := 4, ground := Ground.data }, { on := 8, ground := Ground.data }, { on := 3, ground := Ground.chain }], guard := none }) rfl (fun K hK => ?_) AllReadyH.nil
 go_simp; go_at_call 38; (with_reducible refine HP2.out.mono ?_); rintro e w4 hput; have HPT := hid hput; obtain ⟨rfl, ht4, -⟩ := hput; have HS4 : Hid (StBx W.heap.size s w4) := (ht4.2.tag _ _ (tag_row HS2.out) (by unfold isPT; decide)).trans HS2.out; clear ht4; refine hK.out _ _ HS4.out (fun hHeld => ?_)
 clear hK K
 try simp only [Act.put, List.setIfInBounds_toArray, List.set_cons_zero, List.set_cons_succ]
 refine wpAnyH_done (by kernel_rfl) ?_ _
 go_wp2_with fail
 go_end0
 exact StmtT.of_put ((TrnP.below HW.out.b HC.out.hz).trans (TrnP.below HB2.out H1.out.hz)) HPT.out HR.out
set_option maxRecDepth 20000 in
set_option maxHeartbeats 4000000 in
theorem stmt_equ (h : CIs W base m mb X file line name) {n : Nat} (hn : Sm X n) (hn2 : n ≤ 4000000) (s : StR) (hs : s.ok W) (hk : s.kind = 7) :
  Calls Try.prog 23 #[.pointer (some ⟨m, 0, none⟩), .agg s.cells.toArray] W (StmtT W base m mb file line (X.pl.stmt file line name s) (n + 1)) := by
 obtain ⟨W1, hW1⟩ : ∃ W1, StB W W1 s := ⟨_, stb W s⟩
 obtain ⟨y0, y1, y2, y3, y4, y5, y6, y7⟩ := st_cells hW1.blk
 rw [hk] at y1
 have HW := hid hW1
 have HC := hid h
 have HN := hid hn
 have h1 := h.below hW1.b
 have H1 := hid h1
 have HFV : Hid (∀ w1 : World, Below W1.heap.size W1 w1 → Calls Try.prog 39 #[.slice s.values.p s.values.l.length s.values.c] w1 fun e w' => e = .returned (.agg #[.int .i64 (firstV s.values.l).add, .string (firstV s.values.l).plus, .string (firstV s.values.l).minus]) ∧ Below w1.heap.size w1 w') := fun w1 hb => first_v s.values ((hs.values.1.below hW1.b).below hb)
 have HFS : Hid (∀ w1 : World, Below W1.heap.size W1 w1 → Calls Try.prog 40 #[.slice s.names.p s.names.l.length s.names.c] w1 fun e w' => e = .returned (.string (firstS s.names.l)) ∧ w' = w1) := fun w1 hb => first_s s.names ((hs.names.1.below hW1.b).below hb)
 obtain ⟨R, hR⟩ : ∃ R, R = X.pl.stmt file line name s := ⟨_, rfl⟩
 have HR : Hid (R = (X.pl.mark file line name (firstS s.names.l) true (firstV s.values.l), name)) := by unfold Hid; rw [hR]; unfold FP.stmt; rw [if_neg (by omega), if_neg (by omega), if_neg (by omega), if_neg (by omega), if_neg (by omega), if_pos hk]
 have HMK : Hid (∀ (w3 : World), Below W1.heap.size W1 w3 →
   Calls Try.prog 22 #[.pointer (some ⟨m, 0, none⟩), .agg #[.string (firstS s.names.l), .int .i64 0, .int .i64 0, .int .i64 0, .int .i64 0, .bool true, .int .i64 (firstV s.values.l).add, .string (firstV s.values.l).plus, .string (firstV s.values.l).minus]] w3
    (PutT w3 base m mb X file line name (X.pl.mark file line name (firstS s.names.l) true (firstV s.values.l)) (n + 1))) := fun w3 hb =>
  mark_any (H1.out.below hb) HN.out hn2 ⟨firstS s.names.l, 0, 0, 0, 0, true, firstV s.values.l⟩
 generalize firstV s.values.l = fv at *
 generalize firstS s.names.l = fs at *
 have HH0 : Hid (StBx W.heap.size s W1.drew) := hW1.blk
 have HD0 : Hid (Below W1.heap.size W1 W1.drew) := (Below.refl _ W1).drew
 have HSS : Hid (∀ w2 : World, Below W1.heap.size W1 w2 → StBx W.heap.size s w2) := fun w2 hb => (hb.block _ (tag_lt (tag_row HH0.out))).trans HH0.out
 have k4 : ∀ w' : World, StBx W.heap.size s w' → w'.cell? ⟨W.heap.size, 4, none⟩ = some (.slice s.names.p s.names.l.length s.names.c) := fun w' h => (st_cells h).2.2.2.2.1
 have k6 : ∀ w' : World, StBx W.heap.size s w' → w'.cell? ⟨W.heap.size, 6, none⟩ = some (.slice s.values.p s.values.l.length s.values.c) := fun w' h => (st_cells h).2.2.2.2.2.2.1
 rw [← hR]
 clear h hn hW1 hs h1 hR hk y0 y2 y3 y4 y5 y6 y7
 go_enter Try.func23, Try.ntmps23
 go_upto_region 1 with (fail)
 rw [← HW.out.eq]
 go_upto_region 25 with (fail)
 refine wp_region_held_drew (S := StBx W.heap.size s) (by kernel_rfl) HH0.out (fun hHeld => ?_)
 refine wpAnyH_take (i := 0) (oi := { dst := some 90, op := Op.move (Operand.tmp 0), type := 75, pos := "frag.go:122", after := #[], guard := none }) (v := ?pav0) rfl (by kernel_rfl) (by kernel_rfl) (by kernel_rfl) (fun _ _ _ h => h) (Or.inl ⟨by rfl, ?pah0⟩) (by assumption) ?par0
 case pah0 => ((intro w hSw; (try dsimp only at hSw); go_simp); try with_reducible rfl)
 try simp only [Act.put, List.setIfInBounds_toArray, List.set_cons_zero, List.set_cons_succ]
 refine wpAnyH_take (i := 1) (oi := { dst := some 91, op := Op.fieldAddr 57 (Operand.tmp 3) 3, type := 0, pos := "frag.go:122", after := #[], guard := none }) (v := ?pav1) rfl (by kernel_rfl) (by kernel_rfl) (by kernel_rfl) (fun _ _ _ h => h) (Or.inl ⟨by rfl, ?pah1⟩) (by assumption) ?par1
 case pah1 => ((intro w hSw; (try dsimp only at hSw); go_simp); try with_reducible rfl)
 try simp only [Act.put, List.setIfInBounds_toArray, List.set_cons_zero, List.set_cons_succ]
 refine wpAnyH_take (i := 2) (oi := { dst := some 92, op := Op.load 53 (Operand.tmp 91), type := 53, pos := "frag.go:122", after := #[{ on := 1, ground := Ground.data }], guard := none }) (v := ?pav2) rfl (by kernel_rfl) (by kernel_rfl) (by kernel_rfl) (fun _ _ _ h => h) (Or.inl ⟨by rfl, ?pah2⟩) (by assumption) ?par2
 case pah2 => ((intro w hSw; (try dsimp only at hSw); go_simp); try with_reducible rfl)
 try simp only [Act.put, List.setIfInBounds_toArray, List.set_cons_zero, List.set_cons_succ]
 refine wpAnyH_take (i := 4) (oi := { dst := some 94, op := Op.fieldAddr 57 (Operand.tmp 3) 5, type := 0, pos := "frag.go:122", after := #[], guard := none }) (v := ?pav4) rfl (by kernel_rfl) (by kernel_rfl) (by kernel_rfl) (fun _ _ _ h => h) (Or.inl ⟨by rfl, ?pah4⟩) (by assumption) ?par4
 case pah4 => ((intro w hSw; (try dsimp only at hSw); go_simp); try with_reducible rfl)
 try simp only [Act.put, List.setIfInBounds_toArray, List.set_cons_zero, List.set_cons_succ]
 refine wpAnyH_take (i := 5) (oi := { dst := some 95, op := Op.load 54 (Operand.tmp 94), type := 54, pos := "frag.go:122", after := #[{ on := 4, ground := Ground.data }], guard := none }) (v := ?pav5) rfl (by kernel_rfl) (by kernel_rfl) (by kernel_rfl) (fun _ _ _ h => h) (Or.inl ⟨by rfl, ?pah5⟩) (by assumption) ?par5
 case pah5 => ((intro w hSw; (try dsimp only at hSw); go_simp); try with_reducible rfl)
 try simp only [Act.put, List.setIfInBounds_toArray, List.set_cons_zero, List.set_cons_succ]
 refine wpAnyH_ready (rs := [3]) (by kernel_rfl) (by simp) ?_
 refine AllReadyH.cons (o := { dst := some 93, op := Op.call { callee := Callee.value (Operand.func 40), args := #[Operand.tmp 92], argTypes := #[53] }, type := 9, pos := "frag.go:122", after := #[{ on := 2, ground := Ground.data }], guard := none }) rfl (fun K hK => ?_) AllReadyH.nil
 go_simp; go_at_call 40; (with_reducible refine (HFS.out _ (by first | exact HD0.out | exact HB2.out)).mono ?_); rintro e w1s ⟨rfl, rfl⟩; refine hK.out _ _ (by first | exact HH0.out | exact HSS.out _ HB2.out) (fun hHeld => ?_)
 clear hK K
 try simp only [Act.put, List.setIfInBounds_toArray, List.set_cons_zero, List.set_cons_succ]
 refine wpAnyH_ready (rs := [6]) (by kernel_rfl) (by simp) ?_
 refine AllReadyH.cons (o := { dst := some 96, op := Op.call { callee := Callee.value (Operand.func 39), args := #[Operand.tmp 95], argTypes := #[54] }, type := 62, pos := "frag.go:122", after := #[{ on := 5, ground := Ground.data }, { on := 3, ground := Ground.chain }], guard := none }) rfl (fun K hK => ?_) AllReadyH.nil
 go_simp; go_at_call 39; (with_reducible refine (HFV.out _ HD0.out).mono ?_); rintro e w2 ⟨rfl, hb2⟩; have HB2 := hid (HD0.out.trans hb2); clear hb2; refine hK.out _ _ (HSS.out _ HB2.out) (fun hHeld => ?_)
 clear hK K
 try simp only [Act.put, List.setIfInBounds_toArray, List.set_cons_zero, List.set_cons_succ]
 refine wpAnyH_take (i := 7) (oi := { dst := some 97, op := Op.build 81 #[(0, Operand.tmp 93), (5, Operand.const (Value.bool true)), (6, Operand.tmp 96)], type := 81, pos := "frag.go:122", after := #[{ on := 3, ground := Ground.data }, { on := 6, ground := Ground.data }], guard := none }) (v := ?pav7) rfl (by kernel_rfl) (by kernel_rfl) (by kernel_rfl) (fun _ _ _ h => h) (Or.inl ⟨by rfl, ?pah7⟩) (by assumption) ?par7
 case pah7 => ((intro w hSw; (try dsimp only at hSw); go_simp); try with_reducible rfl)
 try simp only [Act.put, List.setIfInBounds_toArray, List.set_cons_zero, List.set_cons_succ]
 refine wpAnyH_ready (rs := [8]) (by kernel_rfl) (by simp) ?_
 refine AllReadyH.cons (o := { dst := some 98, op := Op.call { callee := Callee.value (Operand.func 22), args := #[Operand.tmp 90, Operand.tmp 97], argTypes := #[75, 81] }, type := 0, pos := "frag.go:122", after := #[{ on := 0, ground := Ground.data }, { on := 7, ground := Ground.data }, { on := 6, ground := Ground.chain }], guard := none }) rfl (fun K hK => ?_) AllReadyH.nil
 go_simp; go_at_call 22; (with_reducible refine (HMK.out _ HB2.out).mono ?_); rintro e w4 hput; have HPT := hid hput; obtain ⟨rfl, ht4, -⟩ := hput; have HS4 : Hid (StBx W.heap.size s w4) := (ht4.2.tag _ _ (tag_row (HSS.out _ HB2.out)) (by unfold isPT; decide)).trans (HSS.out _ HB2.out); clear ht4; refine hK.out _ _ HS4.out (fun hHeld => ?_)
 clear hK K
 try simp only [Act.put, List.setIfInBounds_toArray, List.set_cons_zero, List.set_cons_succ]
 refine wpAnyH_done (by kernel_rfl) ?_ _
 go_wp2_with fail
 go_end0
 exact StmtT.of_put ((TrnP.below HW.out.b HC.out.hz).trans (TrnP.below HB2.out H1.out.hz)) HPT.out HR.out
end Go.Proofs.Ythlingholhjcnaa
namespace Go.Proofs.Ythlingholhjcnaa
open Go.RowKit
variable {W W' w w' : World} {base m mb : Nat} {X X' : FV} {file line : Int} {name : ByteArray} {nm : List ByteArray}
set_option maxRecDepth 20000 in
theorem run_eql_vv (a b : Vv) (w : World) : (binOp .eql 62 (.agg #[.int .i64 a.add, .string a.plus, .string a.minus]) (.agg #[.int .i64 b.add, .string b.plus, .string b.minus])).run Try.prog w = .ok (.bool (decide (a = b))) w := by
 obtain ⟨a1, a2, a3⟩ := a
 obtain ⟨b1, b2, b3⟩ := b
 by_cases h1 : a1 = b1
 ·by_cases h2 : a2 = b2
  ·by_cases h3 : a3 = b3
   ·subst h1 h2 h3
    go_simp
   ·subst h1 h2
    have he := strNe h3
    go_simp
  ·subst h1
   have he := strNe h2
   go_simp
 ·have he : (a1 == b1) = false := by simp [h1]
  go_simp
theorem CIsN.rename (h : CIsN W base m mb X nm file line name) (v : ByteArray) : CIsN (W.setCell ⟨m, 7, none⟩ (.string v)) base m mb X nm file line v ∧ Trn base W (W.setCell ⟨m, 7, none⟩ (.string v)) := by
 obtain ⟨am, ⟨es, c, e1, e2⟩, h2⟩ := h.mp
 have hmb : mb ≠ m := tag_ne (show tagAt W mb = some 0 by unfold tagAt; rw [e1]; rfl) h.tagM (by decide)
 have hl : Lies base (fun y => y ≠ 78 + 1) W (W.setCell ⟨m, 7, none⟩ (.string v)) := Lies.grown (grown_set _ _ _) (fun g hg => by cases hg; exact ⟨h.tagM, h.ge.1⟩) (fun hn => hn rfl) h.hz
 refine ⟨⟨heap_setCell_same _ _ 7 _ _ _ h.head, ⟨am, ⟨es, c, (heap_setCell_other _ _ _ _ hmb).trans e1, e2⟩, h2⟩, h.is.lies (hl.mono ?_), h.ge⟩, TrnP.store (by unfold isPT; decide) h (TrnP.refl _ _) h.tagM 7 _⟩
 rintro y ((rfl | rfl | rfl | rfl | rfl) | (rfl | rfl)) <;> decide
set_option maxRecDepth 20000 in
set_option maxHeartbeats 4000000 in
theorem stmt_section (h : CIs W base m mb X file line name) {n : Nat} (hn : Sm X n) (hn2 : n ≤ 4000000) (s : StR) (hs : s.ok W) (hk : s.kind = 2) :
  Calls Try.prog 23 #[.pointer (some ⟨m, 0, none⟩), .agg s.cells.toArray] W (StmtT W base m mb file line (X.pl.stmt file line name s) (n + 1)) := by
 obtain ⟨W1, hW1⟩ : ∃ W1, StB W W1 s := ⟨_, stb W s⟩
 obtain ⟨y0, y1, y2, y3, y4, y5, y6, y7⟩ := st_cells hW1.blk
 rw [hk] at y1
 have HW := hid hW1
 have HC := hid h
 have HN := hid hn
 have h1 := h.below hW1.b
 have H1 := hid h1
 have HFS : Hid (Calls Try.prog 40 #[s.names.val] W1 fun e w' => e = .returned (.string (firstS s.names.l)) ∧ w' = W1) := first_s s.names (hs.names.1.below hW1.b)
 obtain ⟨R, hR⟩ : ∃ R, R = X.pl.stmt file line name s := ⟨_, rfl⟩
 have HR : Hid (R = (if 32 < (firstS s.names.l).size then (X.pl.fault file line 3, name) else ((X.pl.part file line (firstS s.names.l)).1, firstS s.names.l))) := by unfold Hid; rw [hR]; unfold FP.stmt; rw [if_neg (by omega), if_neg (by omega), if_neg (by omega), if_neg (by omega), if_pos hk]
 have HF := hid (fails_any h1 (Nat.le_trans hn.fs (by omega)) 3)
 generalize firstS s.names.l = fs at *
 obtain ⟨h2, ht2⟩ := h1.rename fs
 have HP := hid (part_anyP h2 (Nat.le_trans hn.ps (by omega)))
 have HT2 := hid ht2
 have z7 := cell_of_row _ _ 7 _ _ _ h1.head
 have zf7 := frozen_of_row _ _ 7 _ _ h1.head
 rw [← hR]
 clear h hn hW1 hs h1 hR hk y0 y2 y3 y5 y6 y7 h2 ht2
 by_cases hlong : 32 < fs.size
 ·have hlI : (32 : Int) < (fs.size : Int) := by omega
  go_enter Try.func23, Try.ntmps23
  go_upto_region 1 with (fail)
  rw [← HW.out.eq]
  go_wp2_with (first
   | (go_at_call 40; (with_reducible refine HFS.out.mono ?_); rintro e w2 ⟨rfl, rfl⟩)
   | (go_at_call 36; (with_reducible refine HF.out.mono ?_); rintro e w3 ⟨rfl, ⟨v', h3⟩, ht3⟩; have H3 := hid h3; have HT3 := hid ht3; clear h3 ht3))
  go_end0
  refine ⟨rfl, (TrnP.below HW.out.b HC.out.hz).trans HT3.out, _, by rw [HR.out, if_pos hlong]; exact H3.out, by rw [HR.out, if_pos hlong]; rfl, ?_⟩
  have q := HN.out
  exact ⟨Nat.le_succ_of_le q.ps, Nat.le_succ_of_le q.ms, Nat.le_succ_of_le q.gs, by show (X.fs ++ [_]).length ≤ _; rw [List.length_append]; have := q.fs; simp; omega, fun y hy => Nat.le_succ_of_le (q.pcs y hy)⟩
 ·have hlI : ¬ (32 : Int) < (fs.size : Int) := by omega
  go_enter Try.func23, Try.ntmps23
  go_upto_region 1 with (fail)
  rw [← HW.out.eq]
  go_wp2_with (first
   | (go_at_call 40; (with_reducible refine HFS.out.mono ?_); rintro e w2 ⟨rfl, hw2⟩; subst hw2)
   | (go_at_call 37; (with_reducible refine HP.out.mono ?_); rintro e w3 ⟨X3, i, g, c, rfl, hpv3, hi3, h3, ht3, hp3⟩; have H3 := hid h3; have HT3 := hid ht3; have HP3 := hid hp3; clear h3 ht3 hp3))
  go_end0
  refine ⟨rfl, ((TrnP.below HW.out.b HC.out.hz).trans HT2.out).trans HT3.out.pt, X3, by rw [HR.out, if_neg hlong]; exact H3.out, by rw [HR.out, if_neg hlong, HP3.out.plain], HP3.out.sm HN.out⟩
set_option maxRecDepth 20000 in
set_option maxHeartbeats 4000000 in
theorem stmt_other (h : CIs W base m mb X file line name) {n : Nat} (hn : Sm X n) (s : StR) (hk : ¬ (1 ≤ s.kind ∧ s.kind ≤ 7)) :
  Calls Try.prog 23 #[.pointer (some ⟨m, 0, none⟩), .agg s.cells.toArray] W (StmtT W base m mb file line (X.pl.stmt file line name s) (n + 1)) := by
 obtain ⟨W1, hW1⟩ : ∃ W1, StB W W1 s := ⟨_, stb W s⟩
 obtain ⟨y0, y1, y2, y3, y4, y5, y6, y7⟩ := st_cells hW1.blk
 have HW := hid hW1
 have HC := hid h
 have HN := hid hn
 have h1 := h.below hW1.b
 have H1 := hid h1
 obtain ⟨R, hR⟩ : ∃ R, R = X.pl.stmt file line name s := ⟨_, rfl⟩
 have HR : Hid (R = (X.pl, name)) := by unfold Hid; rw [hR]; unfold FP.stmt; rw [if_neg (by omega), if_neg (by omega), if_neg (by omega), if_neg (by omega), if_neg (by omega), if_neg (by omega), if_neg (by omega)]
 have e1 : (s.kind == 1) = false := by simp; omega
 have e2 : (s.kind == 2) = false := by simp; omega
 have e3 : (s.kind == 3) = false := by simp; omega
 have e4 : (s.kind == 4) = false := by simp; omega
 have e5 : (s.kind == 5) = false := by simp; omega
 have e6 : (s.kind == 6) = false := by simp; omega
 have e7 : (s.kind == 7) = false := by simp; omega
 rw [← hR]
 clear h hn hW1 h1 hR hk y0 y2 y3 y4 y5 y6 y7
 go_enter Try.func23, Try.ntmps23
 go_upto_region 1 with (fail)
 rw [← HW.out.eq]
 go_wp2_with (fail)
 go_end0
 exact ⟨rfl, TrnP.below HW.out.b HC.out.hz, X, by rw [HR.out]; exact H1.out, by rw [HR.out], HN.out.mono (Nat.le_succ _)⟩
end Go.Proofs.Ythlingholhjcnaa
