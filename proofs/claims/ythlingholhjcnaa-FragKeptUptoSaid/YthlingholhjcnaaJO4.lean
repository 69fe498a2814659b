/-
  The document's maker as it lies; fault.
  The document's maker: part.
-/
import Derived.Test.YthlingholhjcnaaJO3
namespace Go.Proofs.Ythlingholhjcnaa
open Go.RowKit
variable {W W' w w' : World} {base m : Nat} {X X' : FV} {file line : Int} {name : ByteArray}

def headR (X : FV) (file line : Int) (name : ByteArray) : Array Value := #[X.pv, X.mv, X.gv, X.fv, .int .i64 file, .int .i64 line, .string name]
structure RkN (W : World) (base m : Nat) (X : FV) (file line : Int) (name : ByteArray) : Prop where
  head : W.heap[m]? = some (.cells (headR X file line name) 85 (0, 0))
  is : FIs W base X
  ge : base ≤ m
theorem RkN.lt (h : RkN W base m X file line name) : m < W.heap.size := (Array.getElem?_eq_some_iff.1 h.head).1
theorem RkN.hz (h : RkN W base m X file line name) : base ≤ W.heap.size := by have := h.lt; have := h.ge; omega
theorem RkN.tagM (h : RkN W base m X file line name) : tagAt W m = some (85 + 1) := tag_row h.head
theorem RkN.cells (h : RkN W base m X file line name) : W.cell? ⟨m, 0, none⟩ = some X.pv ∧ W.cell? ⟨m, 1, none⟩ = some X.mv ∧ W.cell? ⟨m, 2, none⟩ = some X.gv ∧ W.cell? ⟨m, 3, none⟩ = some X.fv ∧ FL m 4 file line name W :=
  ⟨cell_of_row _ _ 0 _ _ _ h.head, cell_of_row _ _ 1 _ _ _ h.head, cell_of_row _ _ 2 _ _ _ h.head, cell_of_row _ _ 3 _ _ _ h.head, cell_of_row _ _ 4 _ _ _ h.head, cell_of_row _ _ 5 _ _ _ h.head, cell_of_row _ _ 6 _ _ _ h.head⟩
theorem RkN.below (h : RkN W base m X file line name) (hb : Below W.heap.size W w') : RkN w' base m X file line name :=
  ⟨(hb.block _ h.lt).trans h.head, h.is.lies (Lies.below _ hb h.hz), h.ge⟩
theorem RkN.store (h : RkN W base m X file line name) {x : Nat} (hl : Lies base (fun y => y ≠ x) W w') (hx : x ≠ 85 + 1) {X' : FV} (hF : FIs w' base X') (k : Nat) (v : Value) {file' line' : Int} {name' : ByteArray} (hk : headR X' file' line' name' = (headR X file line name).setIfInBounds k v) :
    RkN (w'.setCell ⟨m, k, none⟩ v) base m X' file' line' name' := by
  have hm : w'.heap[m]? = some (.cells (headR X file line name) 85 (0, 0)) := (hl.tag m _ h.tagM (Ne.symm hx)).trans h.head
  refine ⟨?_, hF.lies ?_, h.ge⟩
  · rw [hk]; exact heap_setCell_same _ _ _ _ _ _ hm
  · exact (Lies.grown (x := 85 + 1) (P := fun y => y ≠ 85 + 1) (grown_set _ _ _) (fun g hg => by cases hg; exact ⟨tag_row hm, h.ge⟩) (fun hn => hn rfl) (Nat.le_trans h.hz hl.size)).mono (by rintro y ((rfl | rfl | rfl | rfl | rfl) | (rfl | rfl)) <;> decide)
theorem TrnP.storeR {P : Nat → Prop} (hP : ¬ P (85 + 1)) (h : RkN W base m X file line name) (ht : TrnP P base W w') (hm : tagAt w' m = some (85 + 1)) (k : Nat) (v : Value) : TrnP P base W (w'.setCell ⟨m, k, none⟩ v) :=
  ht.trans (TrnP.grown (x := 85 + 1) (grown_set _ _ _) (fun g hg => by cases hg; exact ⟨hm, h.ge⟩) hP (Nat.le_trans h.hz ht.size))
theorem RkN.finFault (h : RkN W base m X file line name) {o : Obj} {w8 : World} {v' : Value} (k : Ft) (ho : w8.ownsRow base 42 3 v' (X.fs.length + 1) (X.fs.flatMap Ft.cells ++ k.cells)) (hg : (W.alloc o).drew.grownBy w8 X.fv.ownBlock) :
    RkN (w8.setCell ⟨m, 3, none⟩ v') base m { X with fv := v', fs := X.fs ++ [k] } file line name ∧ TrnP isPT base W (w8.setCell ⟨m, 3, none⟩ v') := by
  have hA := h.below (alloc_below W o)
  have hg := grown_undrew hg
  have hr : ∀ g, X.fv.ownBlock = some g → tagAt (W.alloc o) g = some (42 + 1) ∧ base ≤ g := fun g hgg => ⟨own_tag hA.is.faults hgg, own_ge hA.is.faults g hgg⟩
  have hl : Lies base (fun y => y ≠ 42 + 1) (W.alloc o) w8 := Lies.grown hg hr (fun hn => hn rfl) hA.hz
  have ht : TrnP isPT base W w8 := (TrnP.below (alloc_below W o) h.hz).trans (TrnP.grown hg hr (by unfold isPT; decide) hA.hz)
  exact ⟨hA.store hl (by decide) (hA.is.addFault hA.hz k ho hg) 3 v' rfl, TrnP.storeR (by unfold isPT; decide) h ht (tag_blk hA.tagM (hl.tag m _ hA.tagM (by decide))) 3 v'⟩
theorem RkN.appFault (h : RkN W base m X file line name) {o : Obj} {w8 : World} (hg : (W.alloc o).drew.grownBy w8 X.fv.ownBlock) : w8.heap[m]? = some (.cells (headR X file line name) 85 (0, 0)) ∧ FL m 4 file line name w8 := by
  have hA := h.below (alloc_below W o)
  have hg := grown_undrew hg
  have e : w8.heap[m]? = (W.alloc o).heap[m]? := hg.block m hA.lt (fun e => tag_ne (own_tag hA.is.faults e.symm) hA.tagM (by decide) rfl)
  exact ⟨e.trans hA.head, hA.cells.2.2.2.2.blk e⟩
theorem RkN.finMark (h : RkN W base m X file line name) {o : Obj} {w8 : World} {v' : Value} (k : Mk) (ho : w8.ownsRow base 81 9 v' (X.ms.length + 1) (X.ms.flatMap Mk.cells ++ k.cells)) (hg : (W.alloc o).drew.grownBy w8 X.mv.ownBlock) :
    RkN (w8.setCell ⟨m, 1, none⟩ v') base m { X with mv := v', ms := X.ms ++ [k] } file line name ∧ TrnP isPT base W (w8.setCell ⟨m, 1, none⟩ v') := by
  have hA := h.below (alloc_below W o)
  have hg := grown_undrew hg
  have hr : ∀ g, X.mv.ownBlock = some g → tagAt (W.alloc o) g = some (81 + 1) ∧ base ≤ g := fun g hgg => ⟨own_tag hA.is.marks hgg, own_ge hA.is.marks g hgg⟩
  have hl : Lies base (fun y => y ≠ 81 + 1) (W.alloc o) w8 := Lies.grown hg hr (fun hn => hn rfl) hA.hz
  have ht : TrnP isPT base W w8 := (TrnP.below (alloc_below W o) h.hz).trans (TrnP.grown hg hr (by unfold isPT; decide) hA.hz)
  exact ⟨hA.store hl (by decide) (hA.is.addMark hA.hz k ho hg) 1 v' rfl, TrnP.storeR (by unfold isPT; decide) h ht (tag_blk hA.tagM (hl.tag m _ hA.tagM (by decide))) 1 v'⟩
theorem RkN.appMark (h : RkN W base m X file line name) {o : Obj} {w8 : World} (hg : (W.alloc o).drew.grownBy w8 X.mv.ownBlock) : w8.heap[m]? = some (.cells (headR X file line name) 85 (0, 0)) ∧ FL m 4 file line name w8 := by
  have hA := h.below (alloc_below W o)
  have hg := grown_undrew hg
  have e : w8.heap[m]? = (W.alloc o).heap[m]? := hg.block m hA.lt (fun e => tag_ne (own_tag hA.is.marks e.symm) hA.tagM (by decide) rfl)
  exact ⟨e.trans hA.head, hA.cells.2.2.2.2.blk e⟩
theorem RkN.finTold (h : RkN W base m X file line name) {o : Obj} {w8 : World} {v' : Value} (k : Td) (ho : w8.ownsRow base 90 3 v' (X.gs.length + 1) (X.gs.flatMap Td.cells ++ k.cells)) (hg : (W.alloc o).drew.grownBy w8 X.gv.ownBlock) :
    RkN (w8.setCell ⟨m, 2, none⟩ v') base m { X with gv := v', gs := X.gs ++ [k] } file line name ∧ TrnP isPT base W (w8.setCell ⟨m, 2, none⟩ v') := by
  have hA := h.below (alloc_below W o)
  have hg := grown_undrew hg
  have hr : ∀ g, X.gv.ownBlock = some g → tagAt (W.alloc o) g = some (90 + 1) ∧ base ≤ g := fun g hgg => ⟨own_tag hA.is.globals hgg, own_ge hA.is.globals g hgg⟩
  have hl : Lies base (fun y => y ≠ 90 + 1) (W.alloc o) w8 := Lies.grown hg hr (fun hn => hn rfl) hA.hz
  have ht : TrnP isPT base W w8 := (TrnP.below (alloc_below W o) h.hz).trans (TrnP.grown hg hr (by unfold isPT; decide) hA.hz)
  exact ⟨hA.store hl (by decide) (hA.is.addTold hA.hz k ho hg) 2 v' rfl, TrnP.storeR (by unfold isPT; decide) h ht (tag_blk hA.tagM (hl.tag m _ hA.tagM (by decide))) 2 v'⟩
theorem RkN.appTold (h : RkN W base m X file line name) {o : Obj} {w8 : World} (hg : (W.alloc o).drew.grownBy w8 X.gv.ownBlock) : w8.heap[m]? = some (.cells (headR X file line name) 85 (0, 0)) ∧ FL m 4 file line name w8 := by
  have hA := h.below (alloc_below W o)
  have hg := grown_undrew hg
  have e : w8.heap[m]? = (W.alloc o).heap[m]? := hg.block m hA.lt (fun e => tag_ne (own_tag hA.is.globals e.symm) hA.tagM (by decide) rfl)
  exact ⟨e.trans hA.head, hA.cells.2.2.2.2.blk e⟩
theorem RkN.finPart (h : RkN W base m X file line name) {o : Obj} {w8 : World} {v' : Value} (k : PtR) (hy : k.pieces = ⟨none, 0, []⟩) (ho : w8.ownsRow base 50 4 v' (X.ps.length + 1) (X.ps.flatMap PtR.cells ++ k.cells)) (hg : (W.alloc o).drew.grownBy w8 X.pv.ownBlock) :
    RkN (w8.setCell ⟨m, 0, none⟩ v') base m { X with pv := v', ps := X.ps ++ [k] } file line name ∧ TrnP isPM base W (w8.setCell ⟨m, 0, none⟩ v') := by
  have hA := h.below (alloc_below W o)
  have hg := grown_undrew hg
  have hr : ∀ g, X.pv.ownBlock = some g → tagAt (W.alloc o) g = some (50 + 1) ∧ base ≤ g := fun g hgg => ⟨own_tag hA.is.parts hgg, own_ge hA.is.parts g hgg⟩
  have hl : Lies base (fun y => y ≠ 50 + 1) (W.alloc o) w8 := Lies.grown hg hr (fun hn => hn rfl) hA.hz
  have ht : TrnP isPM base W w8 := (TrnP.below (alloc_below W o) h.hz).trans (TrnP.grown hg hr (by unfold isPM isPT; decide) hA.hz)
  exact ⟨hA.store hl (by decide) (hA.is.addPart hA.hz k hy ho hg) 0 v' rfl, TrnP.storeR (by unfold isPM isPT; decide) h ht (tag_blk hA.tagM (hl.tag m _ hA.tagM (by decide))) 0 v'⟩
theorem RkN.appPart (h : RkN W base m X file line name) {o : Obj} {w8 : World} (hg : (W.alloc o).drew.grownBy w8 X.pv.ownBlock) : w8.heap[m]? = some (.cells (headR X file line name) 85 (0, 0)) ∧ FL m 4 file line name w8 := by
  have hA := h.below (alloc_below W o)
  have hg := grown_undrew hg
  have e : w8.heap[m]? = (W.alloc o).heap[m]? := hg.block m hA.lt (fun e => tag_ne (own_tag hA.is.parts e.symm) hA.tagM (by decide) rfl)
  exact ⟨e.trans hA.head, hA.cells.2.2.2.2.blk e⟩
def RFaultT (W : World) (base m : Nat) (X : FV) (file line : Int) (name : ByteArray) (er : Int) (e : Ending) (w' : World) : Prop :=
  e = .returned (.tuple #[]) ∧ (∃ v', RkN w' base m { X with fv := v', fs := X.fs ++ [⟨file, line, er⟩] } file line name) ∧ Trn base W w'
set_option maxRecDepth 20000 in
set_option maxHeartbeats 4000000 in
theorem rfault_any (h : RkN W base m X file line name) (hn : X.fs.length ≤ 1000000000) (er : Int) :
    Calls Try.prog 41 #[.pointer (some ⟨m, 0, none⟩), .int .i64 er] W (RFaultT W base m X file line name er) := by
  unfold RFaultT
  obtain ⟨c0, c1, c2, c4, hfl⟩ := h.cells
  have HC := hid h
  have hz := h.hz
  obtain ⟨pc, cc, hvc, -⟩ := own_shape h.is.faults
  rw [hvc] at c4
  have HP7 : Hid (W.ownsRow base 42 3 (.slice pc X.fs.length cc) X.fs.length (X.fs.flatMap Ft.cells)) := by have := h.is.faults; rw [hvc] at this; exact this
  have HVC : Hid (X.fv.ownBlock = (Value.slice pc X.fs.length cc).ownBlock) := by unfold Hid; rw [hvc]
  have HSL : Hid (∀ o : Obj, FL m 4 file line name (W.alloc o).drew) := fun o => (hfl.blk (Below.heap_alloc W o m h.lt)).drew
  have HH0 : Hid (FL m 4 file line name W.drew) := hfl.drew
  have c4L : ∀ o : Obj, (W.alloc o).cell? ⟨m, 3, none⟩ = some (.slice pc X.fs.length cc) := fun o => (World.cell?_of_block (a := ⟨m, 3, none⟩) (Below.heap_alloc W o m h.lt)).trans c4
  have a5 : ∀ w' : World, FL m 4 file line name w' → w'.cell? ⟨m, 4, none⟩ = some (.int .i64 file) := fun _ h => h.f
  have a6 : ∀ w' : World, FL m 4 file line name w' → w'.cell? ⟨m, 5, none⟩ = some (.int .i64 line) := fun _ h => h.l
  clear h hfl c0 c1 c2 hvc
  generalize hfn : X.fs.length = fn at *
  have HFN := hid hfn
  clear hfn
  go_enter Try.func41, Try.ntmps41
  refine wp_region_held_drew (S := FL m 4 file line name) (by kernel_rfl) HH0.out (fun hHeld => ?_)
  refine wpAnyH_take (i := 0) (oi := { dst := some 4, op := Op.move (Operand.tmp 0), type := 83, pos := "ref.go:39", after := #[], guard := none }) (v := ?fav0) rfl (by kernel_rfl) (by kernel_rfl) (by kernel_rfl) (fun _ _ _ h => h) (Or.inl ⟨by rfl, ?fah0⟩) (by assumption) ?far0
  case fah0 => ((intro w hSw; (try dsimp only at hSw); go_simp); try with_reducible rfl)
  try simp only [Act.put, List.setIfInBounds_toArray, List.set_cons_zero, List.set_cons_succ]
  refine wpAnyH_take (i := 1) (oi := { dst := some 5, op := Op.move (Operand.tmp 0), type := 83, pos := "ref.go:39", after := #[], guard := none }) (v := ?fav1) rfl (by kernel_rfl) (by kernel_rfl) (by kernel_rfl) (fun _ _ _ h => h) (Or.inl ⟨by rfl, ?fah1⟩) (by assumption) ?far1
  case fah1 => ((intro w hSw; (try dsimp only at hSw); go_simp); try with_reducible rfl)
  try simp only [Act.put, List.setIfInBounds_toArray, List.set_cons_zero, List.set_cons_succ]
  refine wpAnyH_take (i := 2) (oi := { dst := some 6, op := Op.nilCheck (Operand.tmp 5), type := 0, pos := "ref.go:39", after := #[{ on := 1, ground := Ground.data }], guard := none }) (v := ?fav2) rfl (by kernel_rfl) (by kernel_rfl) (by kernel_rfl) (fun _ _ _ h => h) (Or.inl ⟨by rfl, ?fah2⟩) (by assumption) ?far2
  case fah2 => ((intro w hSw; (try dsimp only at hSw); go_simp); try with_reducible rfl)
  try simp only [Act.put, List.setIfInBounds_toArray, List.set_cons_zero, List.set_cons_succ]
  refine wpAnyH_take (i := 3) (oi := { dst := some 7, op := Op.fieldAddr 85 (Operand.tmp 6) 1, type := 0, pos := "ref.go:39", after := #[{ on := 2, ground := Ground.data }], guard := none }) (v := ?fav3) rfl (by kernel_rfl) (by kernel_rfl) (by kernel_rfl) (fun _ _ _ h => h) (Or.inl ⟨by rfl, ?fah3⟩) (by assumption) ?far3
  case fah3 => ((intro w hSw; (try dsimp only at hSw); go_simp); try with_reducible rfl)
  try simp only [Act.put, List.setIfInBounds_toArray, List.set_cons_zero, List.set_cons_succ]
  refine wpAnyH_take (i := 5) (oi := { dst := some 9, op := Op.move (Operand.tmp 0), type := 83, pos := "ref.go:39", after := #[], guard := none }) (v := ?fav5) rfl (by kernel_rfl) (by kernel_rfl) (by kernel_rfl) (fun _ _ _ h => h) (Or.inl ⟨by rfl, ?fah5⟩) (by assumption) ?far5
  case fah5 => ((intro w hSw; (try dsimp only at hSw); go_simp); try with_reducible rfl)
  try simp only [Act.put, List.setIfInBounds_toArray, List.set_cons_zero, List.set_cons_succ]
  refine wpAnyH_take (i := 6) (oi := { dst := some 10, op := Op.nilCheck (Operand.tmp 9), type := 0, pos := "ref.go:39", after := #[{ on := 5, ground := Ground.data }], guard := none }) (v := ?fav6) rfl (by kernel_rfl) (by kernel_rfl) (by kernel_rfl) (fun _ _ _ h => h) (Or.inl ⟨by rfl, ?fah6⟩) (by assumption) ?far6
  case fah6 => ((intro w hSw; (try dsimp only at hSw); go_simp); try with_reducible rfl)
  try simp only [Act.put, List.setIfInBounds_toArray, List.set_cons_zero, List.set_cons_succ]
  refine wpAnyH_take (i := 7) (oi := { dst := some 11, op := Op.fieldAddr 85 (Operand.tmp 10) 2, type := 0, pos := "ref.go:39", after := #[{ on := 6, ground := Ground.data }], guard := none }) (v := ?fav7) rfl (by kernel_rfl) (by kernel_rfl) (by kernel_rfl) (fun _ _ _ h => h) (Or.inl ⟨by rfl, ?fah7⟩) (by assumption) ?far7
  case fah7 => ((intro w hSw; (try dsimp only at hSw); go_simp); try with_reducible rfl)
  try simp only [Act.put, List.setIfInBounds_toArray, List.set_cons_zero, List.set_cons_succ]
  refine wpAnyH_take (i := 8) (oi := { dst := some 12, op := Op.load 3 (Operand.tmp 11), type := 3, pos := "ref.go:39", after := #[{ on := 7, ground := Ground.data }], guard := none }) (v := ?fav8) rfl (by kernel_rfl) (by kernel_rfl) (by kernel_rfl) (fun _ _ _ h => h) (Or.inl ⟨by rfl, ?fah8⟩) (by assumption) ?far8
  case fah8 => ((intro w hSw; (try dsimp only at hSw); go_simp); try with_reducible rfl)
  try simp only [Act.put, List.setIfInBounds_toArray, List.set_cons_zero, List.set_cons_succ]
  refine wpAnyH_take (i := 9) (oi := { dst := some 13, op := Op.move (Operand.tmp 0), type := 83, pos := "ref.go:39", after := #[], guard := none }) (v := ?fav9) rfl (by kernel_rfl) (by kernel_rfl) (by kernel_rfl) (fun _ _ _ h => h) (Or.inl ⟨by rfl, ?fah9⟩) (by assumption) ?far9
  case fah9 => ((intro w hSw; (try dsimp only at hSw); go_simp); try with_reducible rfl)
  try simp only [Act.put, List.setIfInBounds_toArray, List.set_cons_zero, List.set_cons_succ]
  refine wpAnyH_take (i := 10) (oi := { dst := some 14, op := Op.nilCheck (Operand.tmp 13), type := 0, pos := "ref.go:39", after := #[{ on := 9, ground := Ground.data }], guard := none }) (v := ?fav10) rfl (by kernel_rfl) (by kernel_rfl) (by kernel_rfl) (fun _ _ _ h => h) (Or.inl ⟨by rfl, ?fah10⟩) (by assumption) ?far10
  case fah10 => ((intro w hSw; (try dsimp only at hSw); go_simp); try with_reducible rfl)
  try simp only [Act.put, List.setIfInBounds_toArray, List.set_cons_zero, List.set_cons_succ]
  refine wpAnyH_take (i := 11) (oi := { dst := some 15, op := Op.fieldAddr 85 (Operand.tmp 14) 3, type := 0, pos := "ref.go:39", after := #[{ on := 10, ground := Ground.data }], guard := none }) (v := ?fav11) rfl (by kernel_rfl) (by kernel_rfl) (by kernel_rfl) (fun _ _ _ h => h) (Or.inl ⟨by rfl, ?fah11⟩) (by assumption) ?far11
  case fah11 => ((intro w hSw; (try dsimp only at hSw); go_simp); try with_reducible rfl)
  try simp only [Act.put, List.setIfInBounds_toArray, List.set_cons_zero, List.set_cons_succ]
  refine wpAnyH_take (i := 12) (oi := { dst := some 16, op := Op.load 3 (Operand.tmp 15), type := 3, pos := "ref.go:39", after := #[{ on := 11, ground := Ground.data }], guard := none }) (v := ?fav12) rfl (by kernel_rfl) (by kernel_rfl) (by kernel_rfl) (fun _ _ _ h => h) (Or.inl ⟨by rfl, ?fah12⟩) (by assumption) ?far12
  case fah12 => ((intro w hSw; (try dsimp only at hSw); go_simp); try with_reducible rfl)
  try simp only [Act.put, List.setIfInBounds_toArray, List.set_cons_zero, List.set_cons_succ]
  refine wpAnyH_take (i := 13) (oi := { dst := some 17, op := Op.move (Operand.tmp 1), type := 40, pos := "ref.go:39", after := #[], guard := none }) (v := ?fav13) rfl (by kernel_rfl) (by kernel_rfl) (by kernel_rfl) (fun _ _ _ h => h) (Or.inl ⟨by rfl, ?fah13⟩) (by assumption) ?far13
  case fah13 => ((intro w hSw; (try dsimp only at hSw); go_simp); try with_reducible rfl)
  try simp only [Act.put, List.setIfInBounds_toArray, List.set_cons_zero, List.set_cons_succ]
  refine wpAnyH_take (i := 14) (oi := { dst := some 18, op := Op.build 42 #[(0, Operand.tmp 12), (1, Operand.tmp 16), (2, Operand.tmp 17)], type := 42, pos := "ref.go:39", after := #[{ on := 8, ground := Ground.data }, { on := 12, ground := Ground.data }, { on := 13, ground := Ground.data }], guard := none }) (v := ?fav14) rfl (by kernel_rfl) (by kernel_rfl) (by kernel_rfl) (fun _ _ _ h => h) (Or.inl ⟨by rfl, ?fah14⟩) (by assumption) ?far14
  case fah14 => ((intro w hSw; (try dsimp only at hSw); go_simp); try with_reducible rfl)
  try simp only [Act.put, List.setIfInBounds_toArray, List.set_cons_zero, List.set_cons_succ]
  refine wpAnyH_ready (rs := [4, 15]) (by kernel_rfl) (by simp) ?_
  refine AllReadyH.cons (o := { dst := some 8, op := Op.load 33 (Operand.tmp 7), type := 33, pos := "ref.go:39", after := #[{ on := 3, ground := Ground.data }], guard := none }) rfl (fun K hK => ?_) ?_
  · go_simp; refine hK.out _ _ (by first | exact HH0.out | exact HSL.out _) (fun hHeld => ?_)
    clear hK K
    try simp only [Act.put, List.setIfInBounds_toArray, List.set_cons_zero, List.set_cons_succ]
    refine wpAnyH_ready (rs := [15]) (by kernel_rfl) (by simp) ?_
    refine AllReadyH.cons (o := { dst := some 19, op := Op.buildSlice 33 1 #[(0, Operand.tmp 18)], type := 33, pos := "ref.go:39", after := #[{ on := 14, ground := Ground.data }], guard := none }) rfl (fun K hK => ?_) AllReadyH.nil
    go_simp; refine hK.out _ _ (HSL.out _) (fun hHeld => ?_)
    clear hK K
    try simp only [Act.put, List.setIfInBounds_toArray, List.set_cons_zero, List.set_cons_succ]
    refine wpAnyH_ready (rs := [16]) (by kernel_rfl) (by simp) ?_
    refine AllReadyH.cons (o := { dst := some 20, op := Op.call { callee := Callee.builtin Builtin.append, args := #[Operand.tmp 8, Operand.tmp 19], argTypes := #[33, 33] }, type := 33, pos := "ref.go:39", after := #[{ on := 4, ground := Ground.data }, { on := 15, ground := Ground.data }], guard := none }) rfl (fun K hK => ?_) AllReadyH.nil
    (refine step_app EFault rfl (.tmp 8) (.tmp 19) rfl base (.slice pc fn cc) fn (X.fs.flatMap Ft.cells) rfl (HP7.out.alloc _) _ 1 1 (Ft.cells ⟨file, line, er⟩) rfl rfl (row_newAt _ _ _ _ rfl) (ft_ones _) (by unfold maxLen; omega) (by omega) (by simp; omega) ?_); intro vp' w8 ho8 hg8 hs8; obtain ⟨p8, c8, rfl, -⟩ := own_shape ho8; have HO8 := hid ho8; have HG8 := hid hg8; clear ho8 hg8 hs8; obtain ⟨hh8, ha8⟩ := HC.out.appFault (by rw [HVC.out]; exact HG8.out); have HA8 := hid ha8; have zf4 := frozen_of_row _ _ 3 _ _ hh8; have z4 := cell_of_row _ _ 3 _ _ _ hh8; clear hh8 ha8; refine hK.out _ _ HA8.out (fun hHeld => ?_)
    clear hK K
    try simp only [Act.put, List.setIfInBounds_toArray, List.set_cons_zero, List.set_cons_succ]
    refine wpAnyH_take (i := 17) (oi := { dst := some 21, op := Op.nilCheck (Operand.tmp 4), type := 0, pos := "ref.go:39", after := #[{ on := 0, ground := Ground.data }, { on := 0, ground := Ground.phase }, { on := 1, ground := Ground.phase }, { on := 2, ground := Ground.phase }, { on := 3, ground := Ground.phase }, { on := 4, ground := Ground.phase }, { on := 5, ground := Ground.phase }, { on := 6, ground := Ground.phase }, { on := 7, ground := Ground.phase }, { on := 8, ground := Ground.phase }, { on := 9, ground := Ground.phase }, { on := 10, ground := Ground.phase }, { on := 11, ground := Ground.phase }, { on := 12, ground := Ground.phase }, { on := 13, ground := Ground.phase }, { on := 14, ground := Ground.phase }, { on := 15, ground := Ground.phase }, { on := 16, ground := Ground.phase }], guard := none }) (v := ?faav17) rfl (by kernel_rfl) (by kernel_rfl) (by kernel_rfl) (fun _ _ _ h => h) (Or.inl ⟨by rfl, ?faah17⟩) (by assumption) ?faar17
    case faah17 => ((intro w hSw; (try dsimp only at hSw); go_simp); try with_reducible rfl)
    try simp only [Act.put, List.setIfInBounds_toArray, List.set_cons_zero, List.set_cons_succ]
    refine wpAnyH_take (i := 18) (oi := { dst := some 22, op := Op.fieldAddr 85 (Operand.tmp 21) 1, type := 0, pos := "ref.go:39", after := #[{ on := 17, ground := Ground.data }, { on := 0, ground := Ground.phase }, { on := 1, ground := Ground.phase }, { on := 2, ground := Ground.phase }, { on := 3, ground := Ground.phase }, { on := 4, ground := Ground.phase }, { on := 5, ground := Ground.phase }, { on := 6, ground := Ground.phase }, { on := 7, ground := Ground.phase }, { on := 8, ground := Ground.phase }, { on := 9, ground := Ground.phase }, { on := 10, ground := Ground.phase }, { on := 11, ground := Ground.phase }, { on := 12, ground := Ground.phase }, { on := 13, ground := Ground.phase }, { on := 14, ground := Ground.phase }, { on := 15, ground := Ground.phase }, { on := 16, ground := Ground.phase }], guard := none }) (v := ?faav18) rfl (by kernel_rfl) (by kernel_rfl) (by kernel_rfl) (fun _ _ _ h => h) (Or.inl ⟨by rfl, ?faah18⟩) (by assumption) ?faar18
    case faah18 => ((intro w hSw; (try dsimp only at hSw); go_simp); try with_reducible rfl)
    try simp only [Act.put, List.setIfInBounds_toArray, List.set_cons_zero, List.set_cons_succ]
    refine wpAnyH_ready (rs := [19]) (by kernel_rfl) (by simp) ?_
    refine AllReadyH.cons (o := { dst := none, op := Op.store 33 (Operand.tmp 22) (Operand.tmp 20), type := 0, pos := "ref.go:39", after := #[{ on := 18, ground := Ground.data }, { on := 16, ground := Ground.data }, { on := 16, ground := Ground.chain }, { on := 0, ground := Ground.phase }, { on := 1, ground := Ground.phase }, { on := 2, ground := Ground.phase }, { on := 3, ground := Ground.phase }, { on := 4, ground := Ground.phase }, { on := 5, ground := Ground.phase }, { on := 6, ground := Ground.phase }, { on := 7, ground := Ground.phase }, { on := 8, ground := Ground.phase }, { on := 9, ground := Ground.phase }, { on := 10, ground := Ground.phase }, { on := 11, ground := Ground.phase }, { on := 12, ground := Ground.phase }, { on := 13, ground := Ground.phase }, { on := 14, ground := Ground.phase }, { on := 15, ground := Ground.phase }, { on := 16, ground := Ground.phase }], guard := none }) rfl (fun K hK => ?_) AllReadyH.nil
    go_simp; refine hK.out _ _ (HA8.out.set (by decide) _) (fun hHeld => ?_)
    clear hK K
    try simp only [Act.put, List.setIfInBounds_toArray, List.set_cons_zero, List.set_cons_succ]
    refine wpAnyH_done (by kernel_rfl) ?_ _
    go_wp2_with fail
    have hfin := HC.out.finFault ⟨file, line, er⟩ (by rw [HFN.out]; exact HO8.out) (by rw [HVC.out]; exact HG8.out)
    go_end0
    exact ⟨rfl, ⟨_, hfin.1⟩, hfin.2⟩
  refine AllReadyH.cons (o := { dst := some 19, op := Op.buildSlice 33 1 #[(0, Operand.tmp 18)], type := 33, pos := "ref.go:39", after := #[{ on := 14, ground := Ground.data }], guard := none }) rfl (fun K hK => ?_) AllReadyH.nil
  go_simp; refine hK.out _ _ (HSL.out _) (fun hHeld => ?_)
  clear hK K
  try simp only [Act.put, List.setIfInBounds_toArray, List.set_cons_zero, List.set_cons_succ]
  refine wpAnyH_ready (rs := [4]) (by kernel_rfl) (by simp) ?_
  refine AllReadyH.cons (o := { dst := some 8, op := Op.load 33 (Operand.tmp 7), type := 33, pos := "ref.go:39", after := #[{ on := 3, ground := Ground.data }], guard := none }) rfl (fun K hK => ?_) AllReadyH.nil
  go_simp; refine hK.out _ _ (by first | exact HH0.out | exact HSL.out _) (fun hHeld => ?_)
  clear hK K
  try simp only [Act.put, List.setIfInBounds_toArray, List.set_cons_zero, List.set_cons_succ]
  refine wpAnyH_ready (rs := [16]) (by kernel_rfl) (by simp) ?_
  refine AllReadyH.cons (o := { dst := some 20, op := Op.call { callee := Callee.builtin Builtin.append, args := #[Operand.tmp 8, Operand.tmp 19], argTypes := #[33, 33] }, type := 33, pos := "ref.go:39", after := #[{ on := 4, ground := Ground.data }, { on := 15, ground := Ground.data }], guard := none }) rfl (fun K hK => ?_) AllReadyH.nil
  (refine step_app EFault rfl (.tmp 8) (.tmp 19) rfl base (.slice pc fn cc) fn (X.fs.flatMap Ft.cells) rfl (HP7.out.alloc _) _ 1 1 (Ft.cells ⟨file, line, er⟩) rfl rfl (row_newAt _ _ _ _ rfl) (ft_ones _) (by unfold maxLen; omega) (by omega) (by simp; omega) ?_); intro vp' w8 ho8 hg8 hs8; obtain ⟨p8, c8, rfl, -⟩ := own_shape ho8; have HO8 := hid ho8; have HG8 := hid hg8; clear ho8 hg8 hs8; obtain ⟨hh8, ha8⟩ := HC.out.appFault (by rw [HVC.out]; exact HG8.out); have HA8 := hid ha8; have zf4 := frozen_of_row _ _ 3 _ _ hh8; have z4 := cell_of_row _ _ 3 _ _ _ hh8; clear hh8 ha8; refine hK.out _ _ HA8.out (fun hHeld => ?_)
  clear hK K
  try simp only [Act.put, List.setIfInBounds_toArray, List.set_cons_zero, List.set_cons_succ]
  refine wpAnyH_take (i := 17) (oi := { dst := some 21, op := Op.nilCheck (Operand.tmp 4), type := 0, pos := "ref.go:39", after := #[{ on := 0, ground := Ground.data }, { on := 0, ground := Ground.phase }, { on := 1, ground := Ground.phase }, { on := 2, ground := Ground.phase }, { on := 3, ground := Ground.phase }, { on := 4, ground := Ground.phase }, { on := 5, ground := Ground.phase }, { on := 6, ground := Ground.phase }, { on := 7, ground := Ground.phase }, { on := 8, ground := Ground.phase }, { on := 9, ground := Ground.phase }, { on := 10, ground := Ground.phase }, { on := 11, ground := Ground.phase }, { on := 12, ground := Ground.phase }, { on := 13, ground := Ground.phase }, { on := 14, ground := Ground.phase }, { on := 15, ground := Ground.phase }, { on := 16, ground := Ground.phase }], guard := none }) (v := ?fabv17) rfl (by kernel_rfl) (by kernel_rfl) (by kernel_rfl) (fun _ _ _ h => h) (Or.inl ⟨by rfl, ?fabh17⟩) (by assumption) ?fabr17
  case fabh17 => ((intro w hSw; (try dsimp only at hSw); go_simp); try with_reducible rfl)
  try simp only [Act.put, List.setIfInBounds_toArray, List.set_cons_zero, List.set_cons_succ]
  refine wpAnyH_take (i := 18) (oi := { dst := some 22, op := Op.fieldAddr 85 (Operand.tmp 21) 1, type := 0, pos := "ref.go:39", after := #[{ on := 17, ground := Ground.data }, { on := 0, ground := Ground.phase }, { on := 1, ground := Ground.phase }, { on := 2, ground := Ground.phase }, { on := 3, ground := Ground.phase }, { on := 4, ground := Ground.phase }, { on := 5, ground := Ground.phase }, { on := 6, ground := Ground.phase }, { on := 7, ground := Ground.phase }, { on := 8, ground := Ground.phase }, { on := 9, ground := Ground.phase }, { on := 10, ground := Ground.phase }, { on := 11, ground := Ground.phase }, { on := 12, ground := Ground.phase }, { on := 13, ground := Ground.phase }, { on := 14, ground := Ground.phase }, { on := 15, ground := Ground.phase }, { on := 16, ground := Ground.phase }], guard := none }) (v := ?fabv18) rfl (by kernel_rfl) (by kernel_rfl) (by kernel_rfl) (fun _ _ _ h => h) (Or.inl ⟨by rfl, ?fabh18⟩) (by assumption) ?fabr18
  case fabh18 => ((intro w hSw; (try dsimp only at hSw); go_simp); try with_reducible rfl)
  try simp only [Act.put, List.setIfInBounds_toArray, List.set_cons_zero, List.set_cons_succ]
  refine wpAnyH_ready (rs := [19]) (by kernel_rfl) (by simp) ?_
  refine AllReadyH.cons (o := { dst := none, op := Op.store 33 (Operand.tmp 22) (Operand.tmp 20), type := 0, pos := "ref.go:39", after := #[{ on := 18, ground := Ground.data }, { on := 16, ground := Ground.data }, { on := 16, ground := Ground.chain }, { on := 0, ground := Ground.phase }, { on := 1, ground := Ground.phase }, { on := 2, ground := Ground.phase }, { on := 3, ground := Ground.phase }, { on := 4, ground := Ground.phase }, { on := 5, ground := Ground.phase }, { on := 6, ground := Ground.phase }, { on := 7, ground := Ground.phase }, { on := 8, ground := Ground.phase }, { on := 9, ground := Ground.phase }, { on := 10, ground := Ground.phase }, { on := 11, ground := Ground.phase }, { on := 12, ground := Ground.phase }, { on := 13, ground := Ground.phase }, { on := 14, ground := Ground.phase }, { on := 15, ground := Ground.phase }, { on := 16, ground := Ground.phase }], guard := none }) rfl (fun K hK => ?_) AllReadyH.nil
  go_simp; refine hK.out _ _ (HA8.out.set (by decide) _) (fun hHeld => ?_)
  clear hK K
  try simp only [Act.put, List.setIfInBounds_toArray, List.set_cons_zero, List.set_cons_succ]
  refine wpAnyH_done (by kernel_rfl) ?_ _
  go_wp2_with fail
  have hfin := HC.out.finFault ⟨file, line, er⟩ (by rw [HFN.out]; exact HO8.out) (by rw [HVC.out]; exact HG8.out)
  go_end0
  exact ⟨rfl, ⟨_, hfin.1⟩, hfin.2⟩
end Go.Proofs.Ythlingholhjcnaa
namespace Go.Proofs.Ythlingholhjcnaa
open Go.RowKit
variable {W W' w w' : World} {base m : Nat} {X X' : FV} {file line : Int} {name : ByteArray}

def RPartT (W : World) (base m : Nat) (X : FV) (file line : Int) (name : ByteArray) (e : Ending) (w' : World) : Prop :=
  ∃ (X' : FV) (i : Nat), e = .returned (.int .i64 (i : Nat)) ∧ i < X'.ps.length ∧ RkN w' base m X' file line name ∧ TrnP isPM base W w' ∧ PartP X X' file line name i
theorem idx_some {l : List ByteArray} {k : ByteArray} {i : Nat} (hi : i < l.length) (he : l[i] = k) (hb : ∀ j (h : j < i), l[j]'(by omega) ≠ k) : idxO l k = some i := by
  unfold idxO
  rw [List.findIdx?_eq_some_iff_getElem]
  exact ⟨hi, by simpa using he, fun j hj => by simpa using hb j hj⟩
theorem idx_none {l : List ByteArray} {k : ByteArray} (hb : ∀ j (h : j < l.length), l[j] ≠ k) : idxO l k = none := by
  unfold idxO
  rw [List.findIdx?_eq_none_iff]
  intro x hx
  obtain ⟨j, hj, rfl⟩ := List.getElem_of_mem hx
  simpa using hb j hj
def HdR (m : Nat) (X : FV) (file line : Int) (name : ByteArray) (w' : World) : Prop := w'.heap[m]? = some (.cells (headR X file line name) 85 (0, 0))
set_option maxRecDepth 20000 in
set_option maxHeartbeats 4000000 in
theorem rpart_any (h : RkN W base m X file line name) (hn : X.ps.length ≤ 1000000000) :
    Calls Try.prog 42 #[.pointer (some ⟨m, 0, none⟩)] W (RPartT W base m X file line name) := by
  have HC := hid h
  obtain ⟨c0, c1, c2, c4, hfl⟩ := h.cells
  obtain ⟨pv, cv, hpv, hprow⟩ := own_shape h.is.parts
  have HPV := hid hpv
  rw [hpv] at c0
  have HI0 : Hid (SameH W W ∧ Below W.heap.size W W) := ⟨rfl, Below.refl _ _⟩
  have HROW := hid hprow
  have HCC := hid (And.intro c0 hfl.n)
  clear h c1 c2 c4 hfl hpv hprow c0
  obtain ⟨n, hnn⟩ : ∃ n, n = X.ps.length := ⟨_, rfl⟩
  have HNN := hid hnn
  rw [← hnn] at hn HCC
  clear hnn
  go_enter Try.func42, Try.ntmps42
  go_wp2_with (fail)
  go_loopw [3] (fun i wr => ∃ (k : Nat), k ≤ n ∧ i = .int .i64 k ∧ (SameH W wr ∧ Below W.heap.size W wr) ∧ ∀ j (h : j < k) (h2 : j < X.ps.length), X.ps[j].name ≠ name) (fun i _ => n - (intOf i).toNat)
  case atStart => exact ⟨0, by omega, rfl, HI0.out, fun j h _ => absurd h (by omega)⟩
  case round =>
    rename World => wr
    obtain ⟨k, hk, rfl, ⟨hsw, hbw⟩, hne⟩ := hrel
    have HSW := hid hsw
    have HBW := hid hbw
    have HNE := hid hne
    clear HI0 hne
    have hz := HC.out.hz
    have hw : RkN wr base m X file line name := HC.out.below hbw
    have HW := hid hw
    have d0 : wr.cell? ⟨m, 0, none⟩ = some (.slice pv n cv) := hsw.cell HCC.out.1
    have a0 : ∀ w1 : World, SameH wr w1 → w1.cell? ⟨m, 0, none⟩ = some (.slice pv n cv) := fun w1 hw => hw.cell d0
    have a6 : ∀ w1 : World, SameH wr w1 → w1.cell? ⟨m, 6, none⟩ = some (.string name) := fun w1 hw => hw.cell (hsw.cell HCC.out.2)
    have hHeld0 : SameH wr wr.drew := rfl
    by_cases hlt : k < n
    · have hkI : (k : Int) < n := by omega
      have hkl : k < X.ps.length := by rw [← HNN.out]; exact hlt
      obtain ⟨b, o, rfl, hbl, -⟩ := HROW.out.at (by rw [flat_len PtR.cells 4 (fun _ => rfl)]; omega)
      have v0 := (ptr_cells HROW.out k hkl).1
      have b0 : ∀ w1 : World, SameH wr w1 → w1.cell? ⟨b, o + k * 4, none⟩ = some (.string X.ps[k].name) := fun w1 hw => hw.cell (hsw.cell v0)
      have HK := hid (show X.ps[k] = X.ps[k] from rfl)
      by_cases he : X.ps[k].name = name
      · have hes := strEq he
        have HE := hid he
        clear hsw hbw hw v0 he HK
        obtain ⟨kn, hkn⟩ : ∃ kn, kn = X.ps[k].name := ⟨_, rfl⟩
        rw [← hkn] at hes b0
        clear hkn
        go_wp2_with (fail)
        go_upto_region 4 with (fail)
        refine wp_region_held_drew (S := SameH wr) (by kernel_rfl) hHeld0 (fun hHeld => ?_)
        refine wpAnyH_take (i := 0) (oi := { dst := some 14, op := Op.move (Operand.tmp 0), type := 83, pos := "ref.go:45", after := #[], guard := none }) (v := ?pav0) rfl (by kernel_rfl) (by kernel_rfl) (by kernel_rfl) (fun _ _ _ h => h) (Or.inl ⟨by rfl, ?pah0⟩) (by assumption) ?par0
        case pah0 => ((intro w hSw; (try dsimp only at hSw); go_simp); try with_reducible rfl)
        try simp only [Act.put, List.setIfInBounds_toArray, List.set_cons_zero, List.set_cons_succ]
        refine wpAnyH_take (i := 1) (oi := { dst := some 15, op := Op.nilCheck (Operand.tmp 14), type := 0, pos := "ref.go:45", after := #[{ on := 0, ground := Ground.data }], guard := none }) (v := ?pav1) rfl (by kernel_rfl) (by kernel_rfl) (by kernel_rfl) (fun _ _ _ h => h) (Or.inl ⟨by rfl, ?pah1⟩) (by assumption) ?par1
        case pah1 => ((intro w hSw; (try dsimp only at hSw); go_simp); try with_reducible rfl)
        try simp only [Act.put, List.setIfInBounds_toArray, List.set_cons_zero, List.set_cons_succ]
        refine wpAnyH_take (i := 2) (oi := { dst := some 16, op := Op.fieldAddr 85 (Operand.tmp 15) 0, type := 0, pos := "ref.go:45", after := #[{ on := 1, ground := Ground.data }], guard := none }) (v := ?pav2) rfl (by kernel_rfl) (by kernel_rfl) (by kernel_rfl) (fun _ _ _ h => h) (Or.inl ⟨by rfl, ?pah2⟩) (by assumption) ?par2
        case pah2 => ((intro w hSw; (try dsimp only at hSw); go_simp); try with_reducible rfl)
        try simp only [Act.put, List.setIfInBounds_toArray, List.set_cons_zero, List.set_cons_succ]
        refine wpAnyH_take (i := 3) (oi := { dst := some 17, op := Op.fieldAddr 32 (Operand.tmp 16) 0, type := 0, pos := "ref.go:45", after := #[{ on := 2, ground := Ground.data }], guard := none }) (v := ?pav3) rfl (by kernel_rfl) (by kernel_rfl) (by kernel_rfl) (fun _ _ _ h => h) (Or.inl ⟨by rfl, ?pah3⟩) (by assumption) ?par3
        case pah3 => ((intro w hSw; (try dsimp only at hSw); go_simp); try with_reducible rfl)
        try simp only [Act.put, List.setIfInBounds_toArray, List.set_cons_zero, List.set_cons_succ]
        refine wpAnyH_take (i := 4) (oi := { dst := some 18, op := Op.load 28 (Operand.tmp 17), type := 28, pos := "ref.go:45", after := #[{ on := 3, ground := Ground.data }], guard := none }) (v := ?pav4) rfl (by kernel_rfl) (by kernel_rfl) (by kernel_rfl) (fun _ _ _ h => h) (Or.inl ⟨by rfl, ?pah4⟩) (by assumption) ?par4
        case pah4 => ((intro w hSw; (try dsimp only at hSw); go_simp); try with_reducible rfl)
        try simp only [Act.put, List.setIfInBounds_toArray, List.set_cons_zero, List.set_cons_succ]
        refine wpAnyH_take (i := 5) (oi := { dst := some 19, op := Op.move (Operand.tmp 3), type := 3, pos := "ref.go:45", after := #[], guard := none }) (v := ?pav5) rfl (by kernel_rfl) (by kernel_rfl) (by kernel_rfl) (fun _ _ _ h => h) (Or.inl ⟨by rfl, ?pah5⟩) (by assumption) ?par5
        case pah5 => ((intro w hSw; (try dsimp only at hSw); go_simp); try with_reducible rfl)
        try simp only [Act.put, List.setIfInBounds_toArray, List.set_cons_zero, List.set_cons_succ]
        refine wpAnyH_take (i := 6) (oi := { dst := some 20, op := Op.indexAddr 28 (Operand.tmp 18) (Operand.tmp 19), type := 0, pos := "ref.go:45", after := #[{ on := 4, ground := Ground.data }, { on := 5, ground := Ground.data }], guard := none }) (v := ?pav6) rfl (by kernel_rfl) (by kernel_rfl) (by kernel_rfl) (fun _ _ _ h => h) (Or.inl ⟨by rfl, ?pah6⟩) (by assumption) ?par6
        case pah6 => ((intro w hSw; (try dsimp only at hSw); go_simp); try with_reducible rfl)
        try simp only [Act.put, List.setIfInBounds_toArray, List.set_cons_zero, List.set_cons_succ]
        refine wpAnyH_take (i := 7) (oi := { dst := some 21, op := Op.fieldAddr 50 (Operand.tmp 20) 0, type := 0, pos := "ref.go:45", after := #[{ on := 6, ground := Ground.data }], guard := none }) (v := ?pav7) rfl (by kernel_rfl) (by kernel_rfl) (by kernel_rfl) (fun _ _ _ h => h) (Or.inl ⟨by rfl, ?pah7⟩) (by assumption) ?par7
        case pah7 => ((intro w hSw; (try dsimp only at hSw); go_simp); try with_reducible rfl)
        try simp only [Act.put, List.setIfInBounds_toArray, List.set_cons_zero, List.set_cons_succ]
        refine wpAnyH_take (i := 8) (oi := { dst := some 22, op := Op.load 9 (Operand.tmp 21), type := 9, pos := "ref.go:45", after := #[{ on := 7, ground := Ground.data }], guard := none }) (v := ?pav8) rfl (by kernel_rfl) (by kernel_rfl) (by kernel_rfl) (fun _ _ _ h => h) (Or.inl ⟨by rfl, ?pah8⟩) (by assumption) ?par8
        case pah8 => ((intro w hSw; (try dsimp only at hSw); go_simp); try with_reducible rfl)
        try simp only [Act.put, List.setIfInBounds_toArray, List.set_cons_zero, List.set_cons_succ]
        refine wpAnyH_take (i := 9) (oi := { dst := some 23, op := Op.move (Operand.tmp 0), type := 83, pos := "ref.go:45", after := #[], guard := none }) (v := ?pav9) rfl (by kernel_rfl) (by kernel_rfl) (by kernel_rfl) (fun _ _ _ h => h) (Or.inl ⟨by rfl, ?pah9⟩) (by assumption) ?par9
        case pah9 => ((intro w hSw; (try dsimp only at hSw); go_simp); try with_reducible rfl)
        try simp only [Act.put, List.setIfInBounds_toArray, List.set_cons_zero, List.set_cons_succ]
        refine wpAnyH_take (i := 10) (oi := { dst := some 24, op := Op.nilCheck (Operand.tmp 23), type := 0, pos := "ref.go:45", after := #[{ on := 9, ground := Ground.data }], guard := none }) (v := ?pav10) rfl (by kernel_rfl) (by kernel_rfl) (by kernel_rfl) (fun _ _ _ h => h) (Or.inl ⟨by rfl, ?pah10⟩) (by assumption) ?par10
        case pah10 => ((intro w hSw; (try dsimp only at hSw); go_simp); try with_reducible rfl)
        try simp only [Act.put, List.setIfInBounds_toArray, List.set_cons_zero, List.set_cons_succ]
        refine wpAnyH_take (i := 11) (oi := { dst := some 25, op := Op.fieldAddr 85 (Operand.tmp 24) 4, type := 0, pos := "ref.go:45", after := #[{ on := 10, ground := Ground.data }], guard := none }) (v := ?pav11) rfl (by kernel_rfl) (by kernel_rfl) (by kernel_rfl) (fun _ _ _ h => h) (Or.inl ⟨by rfl, ?pah11⟩) (by assumption) ?par11
        case pah11 => ((intro w hSw; (try dsimp only at hSw); go_simp); try with_reducible rfl)
        try simp only [Act.put, List.setIfInBounds_toArray, List.set_cons_zero, List.set_cons_succ]
        refine wpAnyH_take (i := 12) (oi := { dst := some 26, op := Op.load 9 (Operand.tmp 25), type := 9, pos := "ref.go:45", after := #[{ on := 11, ground := Ground.data }], guard := none }) (v := ?pav12) rfl (by kernel_rfl) (by kernel_rfl) (by kernel_rfl) (fun _ _ _ h => h) (Or.inl ⟨by rfl, ?pah12⟩) (by assumption) ?par12
        case pah12 => ((intro w hSw; (try dsimp only at hSw); go_simp); try with_reducible rfl)
        try simp only [Act.put, List.setIfInBounds_toArray, List.set_cons_zero, List.set_cons_succ]
        refine wpAnyH_take (i := 13) (oi := { dst := some 27, op := Op.binOp BinOp.eql 9 (Operand.tmp 22) (Operand.tmp 26) 9, type := 4, pos := "ref.go:45", after := #[{ on := 8, ground := Ground.data }, { on := 12, ground := Ground.data }], guard := none }) (v := ?pav13) rfl (by kernel_rfl) (by kernel_rfl) (by kernel_rfl) (fun _ _ _ h => h) (Or.inl ⟨by rfl, ?pah13⟩) (by assumption) ?par13
        case pah13 => ((intro w hSw; (try dsimp only at hSw); go_simp); try with_reducible rfl)
        try simp only [Act.put, List.setIfInBounds_toArray, List.set_cons_zero, List.set_cons_succ]
        refine wpAnyH_done (by kernel_rfl) ?_ _
        go_wp2_with fail
        go_ret
        refine ⟨X, k, rfl, hkl, HW.out.below (Below.refl _ _).drew, TrnP.below HBW.out.drew hz, rfl, rfl, rfl, rfl, rfl, rfl, .inl ⟨rfl, idx_some (by simpa using hkl) ?_ fun j hj => ?_⟩⟩
        · rw [List.getElem_map]; exact HE.out
        · rw [List.getElem_map]; exact HNE.out j hj (by omega)
      · have hes := strNe he
        have HE := hid he
        clear hsw hbw hw v0 he HK
        obtain ⟨kn, hkn⟩ : ∃ kn, kn = X.ps[k].name := ⟨_, rfl⟩
        have HKN := hid hkn
        rw [← hkn] at hes b0
        clear hkn
        go_wp2_with (fail)
        go_upto_region 4 with (fail)
        refine wp_region_held_drew (S := SameH wr) (by kernel_rfl) hHeld0 (fun hHeld => ?_)
        refine wpAnyH_take (i := 0) (oi := { dst := some 14, op := Op.move (Operand.tmp 0), type := 83, pos := "ref.go:45", after := #[], guard := none }) (v := ?pbv0) rfl (by kernel_rfl) (by kernel_rfl) (by kernel_rfl) (fun _ _ _ h => h) (Or.inl ⟨by rfl, ?pbh0⟩) (by assumption) ?pbr0
        case pbh0 => ((intro w hSw; (try dsimp only at hSw); go_simp); try with_reducible rfl)
        try simp only [Act.put, List.setIfInBounds_toArray, List.set_cons_zero, List.set_cons_succ]
        refine wpAnyH_take (i := 1) (oi := { dst := some 15, op := Op.nilCheck (Operand.tmp 14), type := 0, pos := "ref.go:45", after := #[{ on := 0, ground := Ground.data }], guard := none }) (v := ?pbv1) rfl (by kernel_rfl) (by kernel_rfl) (by kernel_rfl) (fun _ _ _ h => h) (Or.inl ⟨by rfl, ?pbh1⟩) (by assumption) ?pbr1
        case pbh1 => ((intro w hSw; (try dsimp only at hSw); go_simp); try with_reducible rfl)
        try simp only [Act.put, List.setIfInBounds_toArray, List.set_cons_zero, List.set_cons_succ]
        refine wpAnyH_take (i := 2) (oi := { dst := some 16, op := Op.fieldAddr 85 (Operand.tmp 15) 0, type := 0, pos := "ref.go:45", after := #[{ on := 1, ground := Ground.data }], guard := none }) (v := ?pbv2) rfl (by kernel_rfl) (by kernel_rfl) (by kernel_rfl) (fun _ _ _ h => h) (Or.inl ⟨by rfl, ?pbh2⟩) (by assumption) ?pbr2
        case pbh2 => ((intro w hSw; (try dsimp only at hSw); go_simp); try with_reducible rfl)
        try simp only [Act.put, List.setIfInBounds_toArray, List.set_cons_zero, List.set_cons_succ]
        refine wpAnyH_take (i := 3) (oi := { dst := some 17, op := Op.fieldAddr 32 (Operand.tmp 16) 0, type := 0, pos := "ref.go:45", after := #[{ on := 2, ground := Ground.data }], guard := none }) (v := ?pbv3) rfl (by kernel_rfl) (by kernel_rfl) (by kernel_rfl) (fun _ _ _ h => h) (Or.inl ⟨by rfl, ?pbh3⟩) (by assumption) ?pbr3
        case pbh3 => ((intro w hSw; (try dsimp only at hSw); go_simp); try with_reducible rfl)
        try simp only [Act.put, List.setIfInBounds_toArray, List.set_cons_zero, List.set_cons_succ]
        refine wpAnyH_take (i := 4) (oi := { dst := some 18, op := Op.load 28 (Operand.tmp 17), type := 28, pos := "ref.go:45", after := #[{ on := 3, ground := Ground.data }], guard := none }) (v := ?pbv4) rfl (by kernel_rfl) (by kernel_rfl) (by kernel_rfl) (fun _ _ _ h => h) (Or.inl ⟨by rfl, ?pbh4⟩) (by assumption) ?pbr4
        case pbh4 => ((intro w hSw; (try dsimp only at hSw); go_simp); try with_reducible rfl)
        try simp only [Act.put, List.setIfInBounds_toArray, List.set_cons_zero, List.set_cons_succ]
        refine wpAnyH_take (i := 5) (oi := { dst := some 19, op := Op.move (Operand.tmp 3), type := 3, pos := "ref.go:45", after := #[], guard := none }) (v := ?pbv5) rfl (by kernel_rfl) (by kernel_rfl) (by kernel_rfl) (fun _ _ _ h => h) (Or.inl ⟨by rfl, ?pbh5⟩) (by assumption) ?pbr5
        case pbh5 => ((intro w hSw; (try dsimp only at hSw); go_simp); try with_reducible rfl)
        try simp only [Act.put, List.setIfInBounds_toArray, List.set_cons_zero, List.set_cons_succ]
        refine wpAnyH_take (i := 6) (oi := { dst := some 20, op := Op.indexAddr 28 (Operand.tmp 18) (Operand.tmp 19), type := 0, pos := "ref.go:45", after := #[{ on := 4, ground := Ground.data }, { on := 5, ground := Ground.data }], guard := none }) (v := ?pbv6) rfl (by kernel_rfl) (by kernel_rfl) (by kernel_rfl) (fun _ _ _ h => h) (Or.inl ⟨by rfl, ?pbh6⟩) (by assumption) ?pbr6
        case pbh6 => ((intro w hSw; (try dsimp only at hSw); go_simp); try with_reducible rfl)
        try simp only [Act.put, List.setIfInBounds_toArray, List.set_cons_zero, List.set_cons_succ]
        refine wpAnyH_take (i := 7) (oi := { dst := some 21, op := Op.fieldAddr 50 (Operand.tmp 20) 0, type := 0, pos := "ref.go:45", after := #[{ on := 6, ground := Ground.data }], guard := none }) (v := ?pbv7) rfl (by kernel_rfl) (by kernel_rfl) (by kernel_rfl) (fun _ _ _ h => h) (Or.inl ⟨by rfl, ?pbh7⟩) (by assumption) ?pbr7
        case pbh7 => ((intro w hSw; (try dsimp only at hSw); go_simp); try with_reducible rfl)
        try simp only [Act.put, List.setIfInBounds_toArray, List.set_cons_zero, List.set_cons_succ]
        refine wpAnyH_take (i := 8) (oi := { dst := some 22, op := Op.load 9 (Operand.tmp 21), type := 9, pos := "ref.go:45", after := #[{ on := 7, ground := Ground.data }], guard := none }) (v := ?pbv8) rfl (by kernel_rfl) (by kernel_rfl) (by kernel_rfl) (fun _ _ _ h => h) (Or.inl ⟨by rfl, ?pbh8⟩) (by assumption) ?pbr8
        case pbh8 => ((intro w hSw; (try dsimp only at hSw); go_simp); try with_reducible rfl)
        try simp only [Act.put, List.setIfInBounds_toArray, List.set_cons_zero, List.set_cons_succ]
        refine wpAnyH_take (i := 9) (oi := { dst := some 23, op := Op.move (Operand.tmp 0), type := 83, pos := "ref.go:45", after := #[], guard := none }) (v := ?pbv9) rfl (by kernel_rfl) (by kernel_rfl) (by kernel_rfl) (fun _ _ _ h => h) (Or.inl ⟨by rfl, ?pbh9⟩) (by assumption) ?pbr9
        case pbh9 => ((intro w hSw; (try dsimp only at hSw); go_simp); try with_reducible rfl)
        try simp only [Act.put, List.setIfInBounds_toArray, List.set_cons_zero, List.set_cons_succ]
        refine wpAnyH_take (i := 10) (oi := { dst := some 24, op := Op.nilCheck (Operand.tmp 23), type := 0, pos := "ref.go:45", after := #[{ on := 9, ground := Ground.data }], guard := none }) (v := ?pbv10) rfl (by kernel_rfl) (by kernel_rfl) (by kernel_rfl) (fun _ _ _ h => h) (Or.inl ⟨by rfl, ?pbh10⟩) (by assumption) ?pbr10
        case pbh10 => ((intro w hSw; (try dsimp only at hSw); go_simp); try with_reducible rfl)
        try simp only [Act.put, List.setIfInBounds_toArray, List.set_cons_zero, List.set_cons_succ]
        refine wpAnyH_take (i := 11) (oi := { dst := some 25, op := Op.fieldAddr 85 (Operand.tmp 24) 4, type := 0, pos := "ref.go:45", after := #[{ on := 10, ground := Ground.data }], guard := none }) (v := ?pbv11) rfl (by kernel_rfl) (by kernel_rfl) (by kernel_rfl) (fun _ _ _ h => h) (Or.inl ⟨by rfl, ?pbh11⟩) (by assumption) ?pbr11
        case pbh11 => ((intro w hSw; (try dsimp only at hSw); go_simp); try with_reducible rfl)
        try simp only [Act.put, List.setIfInBounds_toArray, List.set_cons_zero, List.set_cons_succ]
        refine wpAnyH_take (i := 12) (oi := { dst := some 26, op := Op.load 9 (Operand.tmp 25), type := 9, pos := "ref.go:45", after := #[{ on := 11, ground := Ground.data }], guard := none }) (v := ?pbv12) rfl (by kernel_rfl) (by kernel_rfl) (by kernel_rfl) (fun _ _ _ h => h) (Or.inl ⟨by rfl, ?pbh12⟩) (by assumption) ?pbr12
        case pbh12 => ((intro w hSw; (try dsimp only at hSw); go_simp); try with_reducible rfl)
        try simp only [Act.put, List.setIfInBounds_toArray, List.set_cons_zero, List.set_cons_succ]
        refine wpAnyH_take (i := 13) (oi := { dst := some 27, op := Op.binOp BinOp.eql 9 (Operand.tmp 22) (Operand.tmp 26) 9, type := 4, pos := "ref.go:45", after := #[{ on := 8, ground := Ground.data }, { on := 12, ground := Ground.data }], guard := none }) (v := ?pbv13) rfl (by kernel_rfl) (by kernel_rfl) (by kernel_rfl) (fun _ _ _ h => h) (Or.inl ⟨by rfl, ?pbh13⟩) (by assumption) ?pbr13
        case pbh13 => ((intro w hSw; (try dsimp only at hSw); go_simp); try with_reducible rfl)
        try simp only [Act.put, List.setIfInBounds_toArray, List.set_cons_zero, List.set_cons_succ]
        refine wpAnyH_done (by kernel_rfl) ?_ _
        go_wp2_with fail
        refine ⟨⟨k + 1, by omega, by go_num, ⟨HSW.out, HBW.out.drew⟩, fun j hj hj2 => ?_⟩, by simp [intOf]; omega⟩
        by_cases e : j = k
        · subst e; exact HE.out
        · exact HNE.out j (by omega) hj2
    · have hke : k = n := by omega
      subst hke
      have hidx : idxO (X.ps.map PtR.name) name = none := idx_none fun j hj => by
        rw [List.getElem_map]
        have hj2 : j < X.ps.length := by simpa using hj
        exact HNE.out j (by rw [HNN.out]; exact hj2) hj2
      have HIDX := hid hidx
      obtain ⟨-, -, -, -, hfl⟩ := hw.cells
      have hml : m < wr.heap.size := hw.lt
      have hzw := hw.hz
      have HP7 : Hid (wr.ownsRow base 50 4 (.slice pv k cv) k (X.ps.flatMap PtR.cells)) := by have := hw.is.parts; rw [HPV.out, ← HNN.out] at this; exact this
      have HVC : Hid (X.pv.ownBlock = (Value.slice pv k cv).ownBlock) := by unfold Hid; rw [HPV.out, ← HNN.out]
      have HSL : Hid (∀ o : Obj, FL m 4 file line name (wr.alloc o).drew) := fun o => (hfl.blk (Below.heap_alloc wr o m hml)).drew
      have HH0 : Hid (FL m 4 file line name wr.drew) := hfl.drew
      have d0L : ∀ o : Obj, (wr.alloc o).cell? ⟨m, 0, none⟩ = some (.slice pv k cv) := fun o => (World.cell?_of_block (a := ⟨m, 0, none⟩) (Below.heap_alloc wr o m hml)).trans d0
      have a4 : ∀ w' : World, FL m 4 file line name w' → w'.cell? ⟨m, 4, none⟩ = some (.int .i64 file) := fun _ h => h.f
      have a5 : ∀ w' : World, FL m 4 file line name w' → w'.cell? ⟨m, 5, none⟩ = some (.int .i64 line) := fun _ h => h.l
      have a7 : ∀ w' : World, FL m 4 file line name w' → w'.cell? ⟨m, 6, none⟩ = some (.string name) := fun _ h => h.n
      clear hsw hbw hw hfl a0 a6 hHeld0 hidx hlt hk
      go_wp2_with (fail)
      go_upto_region 6 with (fail)
      go_cut [0] (fun p wx => p = .pointer (some ⟨m, 0, none⟩) ∧ ∃ v', RkN wx base m { X with pv := v', ps := X.ps ++ [⟨name, file, line, ⟨none, 0, []⟩⟩] } file line name ∧ TrnP isPM base wr wx)
      case first =>
        refine wp_region_held_drew (S := FL m 4 file line name) (by kernel_rfl) HH0.out (fun hHeld => ?_)
        refine wpAnyH_take (i := 0) (oi := { dst := some 29, op := Op.move (Operand.tmp 0), type := 83, pos := "ref.go:49", after := #[], guard := none }) (v := ?pcv0) rfl (by kernel_rfl) (by kernel_rfl) (by kernel_rfl) (fun _ _ _ h => h) (Or.inl ⟨by rfl, ?pch0⟩) (by assumption) ?pcr0
        case pch0 => ((intro w hSw; (try dsimp only at hSw); go_simp); try with_reducible rfl)
        try simp only [Act.put, List.setIfInBounds_toArray, List.set_cons_zero, List.set_cons_succ]
        refine wpAnyH_take (i := 1) (oi := { dst := some 30, op := Op.move (Operand.tmp 0), type := 83, pos := "ref.go:49", after := #[], guard := none }) (v := ?pcv1) rfl (by kernel_rfl) (by kernel_rfl) (by kernel_rfl) (fun _ _ _ h => h) (Or.inl ⟨by rfl, ?pch1⟩) (by assumption) ?pcr1
        case pch1 => ((intro w hSw; (try dsimp only at hSw); go_simp); try with_reducible rfl)
        try simp only [Act.put, List.setIfInBounds_toArray, List.set_cons_zero, List.set_cons_succ]
        refine wpAnyH_take (i := 2) (oi := { dst := some 31, op := Op.nilCheck (Operand.tmp 30), type := 0, pos := "ref.go:49", after := #[{ on := 1, ground := Ground.data }], guard := none }) (v := ?pcv2) rfl (by kernel_rfl) (by kernel_rfl) (by kernel_rfl) (fun _ _ _ h => h) (Or.inl ⟨by rfl, ?pch2⟩) (by assumption) ?pcr2
        case pch2 => ((intro w hSw; (try dsimp only at hSw); go_simp); try with_reducible rfl)
        try simp only [Act.put, List.setIfInBounds_toArray, List.set_cons_zero, List.set_cons_succ]
        refine wpAnyH_take (i := 3) (oi := { dst := some 32, op := Op.fieldAddr 85 (Operand.tmp 31) 0, type := 0, pos := "ref.go:49", after := #[{ on := 2, ground := Ground.data }], guard := none }) (v := ?pcv3) rfl (by kernel_rfl) (by kernel_rfl) (by kernel_rfl) (fun _ _ _ h => h) (Or.inl ⟨by rfl, ?pch3⟩) (by assumption) ?pcr3
        case pch3 => ((intro w hSw; (try dsimp only at hSw); go_simp); try with_reducible rfl)
        try simp only [Act.put, List.setIfInBounds_toArray, List.set_cons_zero, List.set_cons_succ]
        refine wpAnyH_take (i := 4) (oi := { dst := some 33, op := Op.fieldAddr 32 (Operand.tmp 32) 0, type := 0, pos := "ref.go:49", after := #[{ on := 3, ground := Ground.data }], guard := none }) (v := ?pcv4) rfl (by kernel_rfl) (by kernel_rfl) (by kernel_rfl) (fun _ _ _ h => h) (Or.inl ⟨by rfl, ?pch4⟩) (by assumption) ?pcr4
        case pch4 => ((intro w hSw; (try dsimp only at hSw); go_simp); try with_reducible rfl)
        try simp only [Act.put, List.setIfInBounds_toArray, List.set_cons_zero, List.set_cons_succ]
        refine wpAnyH_take (i := 6) (oi := { dst := some 35, op := Op.move (Operand.tmp 0), type := 83, pos := "ref.go:49", after := #[], guard := none }) (v := ?pcv6) rfl (by kernel_rfl) (by kernel_rfl) (by kernel_rfl) (fun _ _ _ h => h) (Or.inl ⟨by rfl, ?pch6⟩) (by assumption) ?pcr6
        case pch6 => ((intro w hSw; (try dsimp only at hSw); go_simp); try with_reducible rfl)
        try simp only [Act.put, List.setIfInBounds_toArray, List.set_cons_zero, List.set_cons_succ]
        refine wpAnyH_take (i := 7) (oi := { dst := some 36, op := Op.nilCheck (Operand.tmp 35), type := 0, pos := "ref.go:49", after := #[{ on := 6, ground := Ground.data }], guard := none }) (v := ?pcv7) rfl (by kernel_rfl) (by kernel_rfl) (by kernel_rfl) (fun _ _ _ h => h) (Or.inl ⟨by rfl, ?pch7⟩) (by assumption) ?pcr7
        case pch7 => ((intro w hSw; (try dsimp only at hSw); go_simp); try with_reducible rfl)
        try simp only [Act.put, List.setIfInBounds_toArray, List.set_cons_zero, List.set_cons_succ]
        refine wpAnyH_take (i := 8) (oi := { dst := some 37, op := Op.fieldAddr 85 (Operand.tmp 36) 4, type := 0, pos := "ref.go:49", after := #[{ on := 7, ground := Ground.data }], guard := none }) (v := ?pcv8) rfl (by kernel_rfl) (by kernel_rfl) (by kernel_rfl) (fun _ _ _ h => h) (Or.inl ⟨by rfl, ?pch8⟩) (by assumption) ?pcr8
        case pch8 => ((intro w hSw; (try dsimp only at hSw); go_simp); try with_reducible rfl)
        try simp only [Act.put, List.setIfInBounds_toArray, List.set_cons_zero, List.set_cons_succ]
        refine wpAnyH_take (i := 9) (oi := { dst := some 38, op := Op.load 9 (Operand.tmp 37), type := 9, pos := "ref.go:49", after := #[{ on := 8, ground := Ground.data }], guard := none }) (v := ?pcv9) rfl (by kernel_rfl) (by kernel_rfl) (by kernel_rfl) (fun _ _ _ h => h) (Or.inl ⟨by rfl, ?pch9⟩) (by assumption) ?pcr9
        case pch9 => ((intro w hSw; (try dsimp only at hSw); go_simp); try with_reducible rfl)
        try simp only [Act.put, List.setIfInBounds_toArray, List.set_cons_zero, List.set_cons_succ]
        refine wpAnyH_take (i := 10) (oi := { dst := some 39, op := Op.move (Operand.tmp 0), type := 83, pos := "ref.go:49", after := #[], guard := none }) (v := ?pcv10) rfl (by kernel_rfl) (by kernel_rfl) (by kernel_rfl) (fun _ _ _ h => h) (Or.inl ⟨by rfl, ?pch10⟩) (by assumption) ?pcr10
        case pch10 => ((intro w hSw; (try dsimp only at hSw); go_simp); try with_reducible rfl)
        try simp only [Act.put, List.setIfInBounds_toArray, List.set_cons_zero, List.set_cons_succ]
        refine wpAnyH_take (i := 11) (oi := { dst := some 40, op := Op.nilCheck (Operand.tmp 39), type := 0, pos := "ref.go:49", after := #[{ on := 10, ground := Ground.data }], guard := none }) (v := ?pcv11) rfl (by kernel_rfl) (by kernel_rfl) (by kernel_rfl) (fun _ _ _ h => h) (Or.inl ⟨by rfl, ?pch11⟩) (by assumption) ?pcr11
        case pch11 => ((intro w hSw; (try dsimp only at hSw); go_simp); try with_reducible rfl)
        try simp only [Act.put, List.setIfInBounds_toArray, List.set_cons_zero, List.set_cons_succ]
        refine wpAnyH_take (i := 12) (oi := { dst := some 41, op := Op.fieldAddr 85 (Operand.tmp 40) 2, type := 0, pos := "ref.go:49", after := #[{ on := 11, ground := Ground.data }], guard := none }) (v := ?pcv12) rfl (by kernel_rfl) (by kernel_rfl) (by kernel_rfl) (fun _ _ _ h => h) (Or.inl ⟨by rfl, ?pch12⟩) (by assumption) ?pcr12
        case pch12 => ((intro w hSw; (try dsimp only at hSw); go_simp); try with_reducible rfl)
        try simp only [Act.put, List.setIfInBounds_toArray, List.set_cons_zero, List.set_cons_succ]
        refine wpAnyH_take (i := 13) (oi := { dst := some 42, op := Op.load 3 (Operand.tmp 41), type := 3, pos := "ref.go:49", after := #[{ on := 12, ground := Ground.data }], guard := none }) (v := ?pcv13) rfl (by kernel_rfl) (by kernel_rfl) (by kernel_rfl) (fun _ _ _ h => h) (Or.inl ⟨by rfl, ?pch13⟩) (by assumption) ?pcr13
        case pch13 => ((intro w hSw; (try dsimp only at hSw); go_simp); try with_reducible rfl)
        try simp only [Act.put, List.setIfInBounds_toArray, List.set_cons_zero, List.set_cons_succ]
        refine wpAnyH_take (i := 14) (oi := { dst := some 43, op := Op.move (Operand.tmp 0), type := 83, pos := "ref.go:49", after := #[], guard := none }) (v := ?pcv14) rfl (by kernel_rfl) (by kernel_rfl) (by kernel_rfl) (fun _ _ _ h => h) (Or.inl ⟨by rfl, ?pch14⟩) (by assumption) ?pcr14
        case pch14 => ((intro w hSw; (try dsimp only at hSw); go_simp); try with_reducible rfl)
        try simp only [Act.put, List.setIfInBounds_toArray, List.set_cons_zero, List.set_cons_succ]
        refine wpAnyH_take (i := 15) (oi := { dst := some 44, op := Op.nilCheck (Operand.tmp 43), type := 0, pos := "ref.go:49", after := #[{ on := 14, ground := Ground.data }], guard := none }) (v := ?pcv15) rfl (by kernel_rfl) (by kernel_rfl) (by kernel_rfl) (fun _ _ _ h => h) (Or.inl ⟨by rfl, ?pch15⟩) (by assumption) ?pcr15
        case pch15 => ((intro w hSw; (try dsimp only at hSw); go_simp); try with_reducible rfl)
        try simp only [Act.put, List.setIfInBounds_toArray, List.set_cons_zero, List.set_cons_succ]
        refine wpAnyH_take (i := 16) (oi := { dst := some 45, op := Op.fieldAddr 85 (Operand.tmp 44) 3, type := 0, pos := "ref.go:49", after := #[{ on := 15, ground := Ground.data }], guard := none }) (v := ?pcv16) rfl (by kernel_rfl) (by kernel_rfl) (by kernel_rfl) (fun _ _ _ h => h) (Or.inl ⟨by rfl, ?pch16⟩) (by assumption) ?pcr16
        case pch16 => ((intro w hSw; (try dsimp only at hSw); go_simp); try with_reducible rfl)
        try simp only [Act.put, List.setIfInBounds_toArray, List.set_cons_zero, List.set_cons_succ]
        refine wpAnyH_take (i := 17) (oi := { dst := some 46, op := Op.load 3 (Operand.tmp 45), type := 3, pos := "ref.go:49", after := #[{ on := 16, ground := Ground.data }], guard := none }) (v := ?pcv17) rfl (by kernel_rfl) (by kernel_rfl) (by kernel_rfl) (fun _ _ _ h => h) (Or.inl ⟨by rfl, ?pch17⟩) (by assumption) ?pcr17
        case pch17 => ((intro w hSw; (try dsimp only at hSw); go_simp); try with_reducible rfl)
        try simp only [Act.put, List.setIfInBounds_toArray, List.set_cons_zero, List.set_cons_succ]
        refine wpAnyH_take (i := 18) (oi := { dst := some 47, op := Op.build 50 #[(0, Operand.tmp 38), (1, Operand.tmp 42), (2, Operand.tmp 46)], type := 50, pos := "ref.go:49", after := #[{ on := 9, ground := Ground.data }, { on := 13, ground := Ground.data }, { on := 17, ground := Ground.data }], guard := none }) (v := ?pcv18) rfl (by kernel_rfl) (by kernel_rfl) (by kernel_rfl) (fun _ _ _ h => h) (Or.inl ⟨by rfl, ?pch18⟩) (by assumption) ?pcr18
        case pch18 => ((intro w hSw; (try dsimp only at hSw); go_simp); try with_reducible rfl)
        try simp only [Act.put, List.setIfInBounds_toArray, List.set_cons_zero, List.set_cons_succ]
        refine wpAnyH_ready (rs := [5, 19]) (by kernel_rfl) (by simp) ?_
        refine AllReadyH.cons (o := { dst := some 34, op := Op.load 28 (Operand.tmp 33), type := 28, pos := "ref.go:49", after := #[{ on := 4, ground := Ground.data }], guard := none }) rfl (fun K hK => ?_) ?_
        · go_simp; refine hK.out _ _ (by first | exact HH0.out | exact HSL.out _) (fun hHeld => ?_)
          clear hK K
          try simp only [Act.put, List.setIfInBounds_toArray, List.set_cons_zero, List.set_cons_succ]
          refine wpAnyH_ready (rs := [19]) (by kernel_rfl) (by simp) ?_
          refine AllReadyH.cons (o := { dst := some 48, op := Op.buildSlice 28 1 #[(0, Operand.tmp 47)], type := 28, pos := "ref.go:49", after := #[{ on := 18, ground := Ground.data }], guard := none }) rfl (fun K hK => ?_) AllReadyH.nil
          go_simp; refine hK.out _ _ (HSL.out _) (fun hHeld => ?_)
          clear hK K
          try simp only [Act.put, List.setIfInBounds_toArray, List.set_cons_zero, List.set_cons_succ]
          refine wpAnyH_ready (rs := [20]) (by kernel_rfl) (by simp) ?_
          refine AllReadyH.cons (o := { dst := some 49, op := Op.call { callee := Callee.builtin Builtin.append, args := #[Operand.tmp 34, Operand.tmp 48], argTypes := #[28, 28] }, type := 28, pos := "ref.go:49", after := #[{ on := 5, ground := Ground.data }, { on := 19, ground := Ground.data }], guard := none }) rfl (fun K hK => ?_) AllReadyH.nil
          (refine step_app EPart rfl (.tmp 34) (.tmp 48) rfl base (.slice pv k cv) k (X.ps.flatMap PtR.cells) rfl (HP7.out.alloc _) _ 1 1 (PtR.cells ⟨name, file, line, ⟨none, 0, []⟩⟩) rfl rfl (row_newAt _ _ _ _ rfl) (ptr_ones _) (by unfold maxLen; omega) (by omega) (by simp; omega) ?_); intro vp' w8 ho8 hg8 hs8; obtain ⟨p8, c8, rfl, -⟩ := own_shape ho8; have HO8 := hid ho8; have HG8 := hid hg8; clear ho8 hg8 hs8; obtain ⟨hh8, ha8⟩ := HW.out.appPart (by rw [HVC.out]; exact HG8.out); have HA8 := hid ha8; have zf0 := frozen_of_row _ _ 0 _ _ hh8; have z0 := cell_of_row _ _ 0 _ _ _ hh8; clear hh8 ha8; refine hK.out _ _ HA8.out (fun hHeld => ?_)
          clear hK K
          try simp only [Act.put, List.setIfInBounds_toArray, List.set_cons_zero, List.set_cons_succ]
          refine wpAnyH_take (i := 21) (oi := { dst := some 50, op := Op.nilCheck (Operand.tmp 29), type := 0, pos := "ref.go:49", after := #[{ on := 0, ground := Ground.data }, { on := 0, ground := Ground.phase }, { on := 1, ground := Ground.phase }, { on := 2, ground := Ground.phase }, { on := 3, ground := Ground.phase }, { on := 4, ground := Ground.phase }, { on := 5, ground := Ground.phase }, { on := 6, ground := Ground.phase }, { on := 7, ground := Ground.phase }, { on := 8, ground := Ground.phase }, { on := 9, ground := Ground.phase }, { on := 10, ground := Ground.phase }, { on := 11, ground := Ground.phase }, { on := 12, ground := Ground.phase }, { on := 13, ground := Ground.phase }, { on := 14, ground := Ground.phase }, { on := 15, ground := Ground.phase }, { on := 16, ground := Ground.phase }, { on := 17, ground := Ground.phase }, { on := 18, ground := Ground.phase }, { on := 19, ground := Ground.phase }, { on := 20, ground := Ground.phase }], guard := none }) (v := ?pcav21) rfl (by kernel_rfl) (by kernel_rfl) (by kernel_rfl) (fun _ _ _ h => h) (Or.inl ⟨by rfl, ?pcah21⟩) (by assumption) ?pcar21
          case pcah21 => ((intro w hSw; (try dsimp only at hSw); go_simp); try with_reducible rfl)
          try simp only [Act.put, List.setIfInBounds_toArray, List.set_cons_zero, List.set_cons_succ]
          refine wpAnyH_take (i := 22) (oi := { dst := some 51, op := Op.fieldAddr 85 (Operand.tmp 50) 0, type := 0, pos := "ref.go:49", after := #[{ on := 21, ground := Ground.data }, { on := 0, ground := Ground.phase }, { on := 1, ground := Ground.phase }, { on := 2, ground := Ground.phase }, { on := 3, ground := Ground.phase }, { on := 4, ground := Ground.phase }, { on := 5, ground := Ground.phase }, { on := 6, ground := Ground.phase }, { on := 7, ground := Ground.phase }, { on := 8, ground := Ground.phase }, { on := 9, ground := Ground.phase }, { on := 10, ground := Ground.phase }, { on := 11, ground := Ground.phase }, { on := 12, ground := Ground.phase }, { on := 13, ground := Ground.phase }, { on := 14, ground := Ground.phase }, { on := 15, ground := Ground.phase }, { on := 16, ground := Ground.phase }, { on := 17, ground := Ground.phase }, { on := 18, ground := Ground.phase }, { on := 19, ground := Ground.phase }, { on := 20, ground := Ground.phase }], guard := none }) (v := ?pcav22) rfl (by kernel_rfl) (by kernel_rfl) (by kernel_rfl) (fun _ _ _ h => h) (Or.inl ⟨by rfl, ?pcah22⟩) (by assumption) ?pcar22
          case pcah22 => ((intro w hSw; (try dsimp only at hSw); go_simp); try with_reducible rfl)
          try simp only [Act.put, List.setIfInBounds_toArray, List.set_cons_zero, List.set_cons_succ]
          refine wpAnyH_take (i := 23) (oi := { dst := some 52, op := Op.fieldAddr 32 (Operand.tmp 51) 0, type := 0, pos := "ref.go:49", after := #[{ on := 22, ground := Ground.data }, { on := 0, ground := Ground.phase }, { on := 1, ground := Ground.phase }, { on := 2, ground := Ground.phase }, { on := 3, ground := Ground.phase }, { on := 4, ground := Ground.phase }, { on := 5, ground := Ground.phase }, { on := 6, ground := Ground.phase }, { on := 7, ground := Ground.phase }, { on := 8, ground := Ground.phase }, { on := 9, ground := Ground.phase }, { on := 10, ground := Ground.phase }, { on := 11, ground := Ground.phase }, { on := 12, ground := Ground.phase }, { on := 13, ground := Ground.phase }, { on := 14, ground := Ground.phase }, { on := 15, ground := Ground.phase }, { on := 16, ground := Ground.phase }, { on := 17, ground := Ground.phase }, { on := 18, ground := Ground.phase }, { on := 19, ground := Ground.phase }, { on := 20, ground := Ground.phase }], guard := none }) (v := ?pcav23) rfl (by kernel_rfl) (by kernel_rfl) (by kernel_rfl) (fun _ _ _ h => h) (Or.inl ⟨by rfl, ?pcah23⟩) (by assumption) ?pcar23
          case pcah23 => ((intro w hSw; (try dsimp only at hSw); go_simp); try with_reducible rfl)
          try simp only [Act.put, List.setIfInBounds_toArray, List.set_cons_zero, List.set_cons_succ]
          refine wpAnyH_ready (rs := [24]) (by kernel_rfl) (by simp) ?_
          refine AllReadyH.cons (o := { dst := none, op := Op.store 28 (Operand.tmp 52) (Operand.tmp 49), type := 0, pos := "ref.go:49", after := #[{ on := 23, ground := Ground.data }, { on := 20, ground := Ground.data }, { on := 20, ground := Ground.chain }, { on := 0, ground := Ground.phase }, { on := 1, ground := Ground.phase }, { on := 2, ground := Ground.phase }, { on := 3, ground := Ground.phase }, { on := 4, ground := Ground.phase }, { on := 5, ground := Ground.phase }, { on := 6, ground := Ground.phase }, { on := 7, ground := Ground.phase }, { on := 8, ground := Ground.phase }, { on := 9, ground := Ground.phase }, { on := 10, ground := Ground.phase }, { on := 11, ground := Ground.phase }, { on := 12, ground := Ground.phase }, { on := 13, ground := Ground.phase }, { on := 14, ground := Ground.phase }, { on := 15, ground := Ground.phase }, { on := 16, ground := Ground.phase }, { on := 17, ground := Ground.phase }, { on := 18, ground := Ground.phase }, { on := 19, ground := Ground.phase }, { on := 20, ground := Ground.phase }], guard := none }) rfl (fun K hK => ?_) AllReadyH.nil
          go_simp; refine hK.out _ _ (HA8.out.set (by decide) _) (fun hHeld => ?_)
          clear hK K
          try simp only [Act.put, List.setIfInBounds_toArray, List.set_cons_zero, List.set_cons_succ]
          refine wpAnyH_done (by kernel_rfl) ?_ _
          go_wp2_with fail
          have hfin := HW.out.finPart ⟨name, file, line, ⟨none, 0, []⟩⟩ rfl (by rw [← HNN.out]; exact HO8.out) (by rw [HVC.out]; exact HG8.out)
          go_meet
          exact ⟨rfl, _, hfin⟩
        refine AllReadyH.cons (o := { dst := some 48, op := Op.buildSlice 28 1 #[(0, Operand.tmp 47)], type := 28, pos := "ref.go:49", after := #[{ on := 18, ground := Ground.data }], guard := none }) rfl (fun K hK => ?_) AllReadyH.nil
        go_simp; refine hK.out _ _ (HSL.out _) (fun hHeld => ?_)
        clear hK K
        try simp only [Act.put, List.setIfInBounds_toArray, List.set_cons_zero, List.set_cons_succ]
        refine wpAnyH_ready (rs := [5]) (by kernel_rfl) (by simp) ?_
        refine AllReadyH.cons (o := { dst := some 34, op := Op.load 28 (Operand.tmp 33), type := 28, pos := "ref.go:49", after := #[{ on := 4, ground := Ground.data }], guard := none }) rfl (fun K hK => ?_) AllReadyH.nil
        go_simp; refine hK.out _ _ (by first | exact HH0.out | exact HSL.out _) (fun hHeld => ?_)
        clear hK K
        try simp only [Act.put, List.setIfInBounds_toArray, List.set_cons_zero, List.set_cons_succ]
        refine wpAnyH_ready (rs := [20]) (by kernel_rfl) (by simp) ?_
        refine AllReadyH.cons (o := { dst := some 49, op := Op.call { callee := Callee.builtin Builtin.append, args := #[Operand.tmp 34, Operand.tmp 48], argTypes := #[28, 28] }, type := 28, pos := "ref.go:49", after := #[{ on := 5, ground := Ground.data }, { on := 19, ground := Ground.data }], guard := none }) rfl (fun K hK => ?_) AllReadyH.nil
        (refine step_app EPart rfl (.tmp 34) (.tmp 48) rfl base (.slice pv k cv) k (X.ps.flatMap PtR.cells) rfl (HP7.out.alloc _) _ 1 1 (PtR.cells ⟨name, file, line, ⟨none, 0, []⟩⟩) rfl rfl (row_newAt _ _ _ _ rfl) (ptr_ones _) (by unfold maxLen; omega) (by omega) (by simp; omega) ?_); intro vp' w8 ho8 hg8 hs8; obtain ⟨p8, c8, rfl, -⟩ := own_shape ho8; have HO8 := hid ho8; have HG8 := hid hg8; clear ho8 hg8 hs8; obtain ⟨hh8, ha8⟩ := HW.out.appPart (by rw [HVC.out]; exact HG8.out); have HA8 := hid ha8; have zf0 := frozen_of_row _ _ 0 _ _ hh8; have z0 := cell_of_row _ _ 0 _ _ _ hh8; clear hh8 ha8; refine hK.out _ _ HA8.out (fun hHeld => ?_)
        clear hK K
        try simp only [Act.put, List.setIfInBounds_toArray, List.set_cons_zero, List.set_cons_succ]
        refine wpAnyH_take (i := 21) (oi := { dst := some 50, op := Op.nilCheck (Operand.tmp 29), type := 0, pos := "ref.go:49", after := #[{ on := 0, ground := Ground.data }, { on := 0, ground := Ground.phase }, { on := 1, ground := Ground.phase }, { on := 2, ground := Ground.phase }, { on := 3, ground := Ground.phase }, { on := 4, ground := Ground.phase }, { on := 5, ground := Ground.phase }, { on := 6, ground := Ground.phase }, { on := 7, ground := Ground.phase }, { on := 8, ground := Ground.phase }, { on := 9, ground := Ground.phase }, { on := 10, ground := Ground.phase }, { on := 11, ground := Ground.phase }, { on := 12, ground := Ground.phase }, { on := 13, ground := Ground.phase }, { on := 14, ground := Ground.phase }, { on := 15, ground := Ground.phase }, { on := 16, ground := Ground.phase }, { on := 17, ground := Ground.phase }, { on := 18, ground := Ground.phase }, { on := 19, ground := Ground.phase }, { on := 20, ground := Ground.phase }], guard := none }) (v := ?pcbv21) rfl (by kernel_rfl) (by kernel_rfl) (by kernel_rfl) (fun _ _ _ h => h) (Or.inl ⟨by rfl, ?pcbh21⟩) (by assumption) ?pcbr21
        case pcbh21 => ((intro w hSw; (try dsimp only at hSw); go_simp); try with_reducible rfl)
        try simp only [Act.put, List.setIfInBounds_toArray, List.set_cons_zero, List.set_cons_succ]
        refine wpAnyH_take (i := 22) (oi := { dst := some 51, op := Op.fieldAddr 85 (Operand.tmp 50) 0, type := 0, pos := "ref.go:49", after := #[{ on := 21, ground := Ground.data }, { on := 0, ground := Ground.phase }, { on := 1, ground := Ground.phase }, { on := 2, ground := Ground.phase }, { on := 3, ground := Ground.phase }, { on := 4, ground := Ground.phase }, { on := 5, ground := Ground.phase }, { on := 6, ground := Ground.phase }, { on := 7, ground := Ground.phase }, { on := 8, ground := Ground.phase }, { on := 9, ground := Ground.phase }, { on := 10, ground := Ground.phase }, { on := 11, ground := Ground.phase }, { on := 12, ground := Ground.phase }, { on := 13, ground := Ground.phase }, { on := 14, ground := Ground.phase }, { on := 15, ground := Ground.phase }, { on := 16, ground := Ground.phase }, { on := 17, ground := Ground.phase }, { on := 18, ground := Ground.phase }, { on := 19, ground := Ground.phase }, { on := 20, ground := Ground.phase }], guard := none }) (v := ?pcbv22) rfl (by kernel_rfl) (by kernel_rfl) (by kernel_rfl) (fun _ _ _ h => h) (Or.inl ⟨by rfl, ?pcbh22⟩) (by assumption) ?pcbr22
        case pcbh22 => ((intro w hSw; (try dsimp only at hSw); go_simp); try with_reducible rfl)
        try simp only [Act.put, List.setIfInBounds_toArray, List.set_cons_zero, List.set_cons_succ]
        refine wpAnyH_take (i := 23) (oi := { dst := some 52, op := Op.fieldAddr 32 (Operand.tmp 51) 0, type := 0, pos := "ref.go:49", after := #[{ on := 22, ground := Ground.data }, { on := 0, ground := Ground.phase }, { on := 1, ground := Ground.phase }, { on := 2, ground := Ground.phase }, { on := 3, ground := Ground.phase }, { on := 4, ground := Ground.phase }, { on := 5, ground := Ground.phase }, { on := 6, ground := Ground.phase }, { on := 7, ground := Ground.phase }, { on := 8, ground := Ground.phase }, { on := 9, ground := Ground.phase }, { on := 10, ground := Ground.phase }, { on := 11, ground := Ground.phase }, { on := 12, ground := Ground.phase }, { on := 13, ground := Ground.phase }, { on := 14, ground := Ground.phase }, { on := 15, ground := Ground.phase }, { on := 16, ground := Ground.phase }, { on := 17, ground := Ground.phase }, { on := 18, ground := Ground.phase }, { on := 19, ground := Ground.phase }, { on := 20, ground := Ground.phase }], guard := none }) (v := ?pcbv23) rfl (by kernel_rfl) (by kernel_rfl) (by kernel_rfl) (fun _ _ _ h => h) (Or.inl ⟨by rfl, ?pcbh23⟩) (by assumption) ?pcbr23
        case pcbh23 => ((intro w hSw; (try dsimp only at hSw); go_simp); try with_reducible rfl)
        try simp only [Act.put, List.setIfInBounds_toArray, List.set_cons_zero, List.set_cons_succ]
        refine wpAnyH_ready (rs := [24]) (by kernel_rfl) (by simp) ?_
        refine AllReadyH.cons (o := { dst := none, op := Op.store 28 (Operand.tmp 52) (Operand.tmp 49), type := 0, pos := "ref.go:49", after := #[{ on := 23, ground := Ground.data }, { on := 20, ground := Ground.data }, { on := 20, ground := Ground.chain }, { on := 0, ground := Ground.phase }, { on := 1, ground := Ground.phase }, { on := 2, ground := Ground.phase }, { on := 3, ground := Ground.phase }, { on := 4, ground := Ground.phase }, { on := 5, ground := Ground.phase }, { on := 6, ground := Ground.phase }, { on := 7, ground := Ground.phase }, { on := 8, ground := Ground.phase }, { on := 9, ground := Ground.phase }, { on := 10, ground := Ground.phase }, { on := 11, ground := Ground.phase }, { on := 12, ground := Ground.phase }, { on := 13, ground := Ground.phase }, { on := 14, ground := Ground.phase }, { on := 15, ground := Ground.phase }, { on := 16, ground := Ground.phase }, { on := 17, ground := Ground.phase }, { on := 18, ground := Ground.phase }, { on := 19, ground := Ground.phase }, { on := 20, ground := Ground.phase }], guard := none }) rfl (fun K hK => ?_) AllReadyH.nil
        go_simp; refine hK.out _ _ (HA8.out.set (by decide) _) (fun hHeld => ?_)
        clear hK K
        try simp only [Act.put, List.setIfInBounds_toArray, List.set_cons_zero, List.set_cons_succ]
        refine wpAnyH_done (by kernel_rfl) ?_ _
        go_wp2_with fail
        have hfin := HW.out.finPart ⟨name, file, line, ⟨none, 0, []⟩⟩ rfl (by rw [← HNN.out]; exact HO8.out) (by rw [HVC.out]; exact HG8.out)
        go_meet
        exact ⟨rfl, _, hfin⟩
      case rest =>
        obtain ⟨rfl, v', h9, ht9⟩ := hcut
        have H9 := hid h9
        have HT9 := hid ht9
        obtain ⟨p9, c9, e9, -⟩ := own_shape h9.is.parts
        have hl9 : (X.ps ++ [(⟨name, file, line, ⟨none, 0, []⟩⟩ : PtR)]).length = k + 1 := by simp [HNN.out]
        have e9 : v' = .slice p9 (X.ps ++ [(⟨name, file, line, ⟨none, 0, []⟩⟩ : PtR)]).length c9 := e9
        rw [hl9] at e9
        subst e9
        obtain ⟨x0, -⟩ := h9.cells
        have x0 : wc.cell? ⟨m, 0, none⟩ = some (.slice p9 (k + 1) c9) := x0
        clear h9 ht9 d0 d0L a4 a5 a7
        go_wp2_with fail
        go_ret
        refine ⟨{ X with pv := .slice p9 (k + 1) c9, ps := X.ps ++ [⟨name, file, line, ⟨none, 0, []⟩⟩] }, k, ret_int (by omega), ?_, H9.out, (TrnP.below HBW.out hz).trans HT9.out, rfl, rfl, rfl, rfl, rfl, rfl, .inr ⟨rfl, HNN.out, HIDX.out⟩⟩
        show k < (X.ps ++ [_]).length
        rw [hl9]; omega
end Go.Proofs.Ythlingholhjcnaa
