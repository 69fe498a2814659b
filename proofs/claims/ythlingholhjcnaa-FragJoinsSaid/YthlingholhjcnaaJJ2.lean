/-
 The code's maker: part, where there is none of the name.
 The makers' methods in plain words; a piece more in the code's maker.
 The code's maker: put.
-/
import Derived.Test.YthlingholhjcnaaJJ1
namespace Go.Proofs.Ythlingholhjcnaa
open Go.RowKit
variable {W W' w w' : World} {base m mb : Nat} {X : FV} {file line : Int} {name : ByteArray} {nm : List ByteArray}
theorem alook_set {κ β : Type} [DecidableEq κ] (m : List (κ × β)) (x : κ) (u : β) (y : κ) : alook (aset m x u) y = if y = x then some u else alook m y := by
 induction m with
 | nil => simp [aset, alook]
 | cons p r ih =>
  obtain ⟨a, v⟩ := p
  by_cases hx : x = a
  ·subst hx
   simp only [aset, if_true, alook]
   by_cases hy : y = x <;> simp [hy]
  ·simp only [aset, if_neg hx, alook]
   by_cases hy : y = a
   ·subst hy; simp [Ne.symm hx]
   ·simp [hy, ih]
theorem idx_app (k : ByteArray) (h : idxO nm name = none) : idxO (nm ++ [name]) k = if name = k then some nm.length else idxO nm k := by
 unfold idxO at h ⊢
 rw [List.findIdx?_append]
 by_cases e : name = k
 ·subst e
  rw [h]
  simp
 ·cases hq : List.findIdx? (fun x => decide (x = k)) nm with
  | some i => simp [e]
  | none => simp [e]
theorem CIsN.mapset (h : CIsN W base m mb X nm file line name) {am : List (ByteArray × Nat)} (ha : ∀ k, alook am k = idxO nm k) (hn : idxO nm name = none) (hm : MapIs Value.string natV w' mb (aset am name nm.length)) (hg : W.grownBy w' (some mb)) :
  CIsN w' base m mb X (nm ++ [name]) file line name ∧ TrnP isPM base W w' := by
 obtain ⟨am0, hm0, _⟩ := h.mp
 have htm := map_tag hm0
 have hl : Lies base (fun y => y ≠ 0) W w' := Lies.grown hg (fun g e => by cases e; exact ⟨htm, h.ge.2⟩) (fun hn => hn rfl) h.hz
 refine ⟨⟨(hl.tag m _ h.tagM (by decide)).trans h.head, ⟨_, hm, fun k => ?_⟩, h.is.lies (hl.mono ?_), h.ge⟩, TrnP.grown hg (fun g e => by cases e; exact ⟨htm, h.ge.2⟩) (by unfold isPM isPT; decide) h.hz⟩
 ·rw [idx_app k hn, alook_set]
  by_cases e : name = k
  ·subst e; simp
  ·rw [if_neg e, if_neg (fun e2 => e e2.symm), ha]
 ·rintro y ((rfl | rfl | rfl | rfl | rfl) | (rfl | rfl)) <;> decide
theorem CIsN.finPart (h : CIsN W base m mb X nm file line name) {o : Obj} {w8 : World} {v' : Value} (y : PtR) (hy : y.pieces = ⟨none, 0, []⟩) (ho : w8.ownsRow base 50 4 v' (X.ps.length + 1) (X.ps.flatMap PtR.cells ++ y.cells)) (hg : (W.alloc o).drew.grownBy w8 X.pv.ownBlock) :
  CIsN (w8.setCell ⟨m, 0, none⟩ v') base m mb { X with pv := v', ps := X.ps ++ [y] } nm file line name ∧ TrnP isPM base W (w8.setCell ⟨m, 0, none⟩ v') := by
 have hA := h.below (alloc_below W o)
 have hg := grown_undrew hg
 have hr : ∀ g, X.pv.ownBlock = some g → tagAt (W.alloc o) g = some (50 + 1) ∧ base ≤ g := fun g hgg => ⟨own_tag hA.is.parts hgg, own_ge hA.is.parts g hgg⟩
 have hl : Lies base (fun y => y ≠ 50 + 1) (W.alloc o) w8 := Lies.grown hg hr (fun hn => hn rfl) hA.hz
 have ht : TrnP isPM base W w8 := (TrnP.below (alloc_below W o) h.hz).trans (TrnP.grown hg hr (by unfold isPM isPT; decide) hA.hz)
 exact ⟨hA.store hl ⟨by decide, by decide⟩ (hA.is.addPart hA.hz y hy ho hg) 0 v' rfl, TrnP.store (by unfold isPM isPT; decide) h ht (tag_blk hA.tagM (hl.tag m _ hA.tagM (by decide))) 0 v'⟩
theorem CIsN.appPart (h : CIsN W base m mb X nm file line name) {o : Obj} {w8 : World} (hg : (W.alloc o).drew.grownBy w8 X.pv.ownBlock) : w8.heap[m]? = some (.cells (headC X mb file line name) 78 (0, 0)) ∧ FL m 5 file line name w8 := by
 have hA := h.below (alloc_below W o)
 have hg := grown_undrew hg
 have e : w8.heap[m]? = (W.alloc o).heap[m]? := hg.block m hA.lt (fun e => tag_ne (own_tag hA.is.parts e.symm) hA.tagM (by decide) rfl)
 exact ⟨e.trans hA.head, hA.cells.2.2.2.2.2.blk e⟩
def HdC (m mb : Nat) (X : FV) (file line : Int) (name : ByteArray) (w' : World) : Prop := w'.heap[m]? = some (.cells (headC X mb file line name) 78 (0, 0))
set_option maxRecDepth 20000 in
set_option maxHeartbeats 4000000 in
theorem part_new (h : CIs W base m mb X file line name) (hn : X.ps.length ≤ 1000000000) (hi : idxO (X.ps.map PtR.name) name = none) :
  Calls Try.prog 37 #[.pointer (some ⟨m, 0, none⟩)] W (PartT W base m mb X file line name) := by
 obtain ⟨c0, c1, c2, c3, c4, hfl⟩ := h.cells
 have HC := hid h
 have HFL := hid hfl
 obtain ⟨pv, cv, hpv, -⟩ := own_shape h.is.parts
 have HPV := hid hpv
 rw [hpv] at c0
 have c7 := hfl.n
 have HI := hid hi
 obtain ⟨am, hm, ha⟩ := h.mp
 have HM := hid hm
 have HA := hid ha
 have a3 : ∀ w1 : World, SameH W w1 → w1.cell? ⟨m, 3, none⟩ = some (.map (some mb)) := fun w1 hw => hw.cell c3
 have a7 : ∀ w1 : World, SameH W w1 → w1.cell? ⟨m, 7, none⟩ = some (.string name) := fun w1 hw => hw.cell c7
 have alk : ∀ w1 : World, SameH W w1 → (Instr.lookup 76 (.map (some mb)) (.string name) true).run Try.prog w1 = .ok (.tuple #[.int .i64 (0 : Nat), .bool false]) w1 := fun w1 hw => by
  have hm1 : MapIs Value.string natV w1 mb am := by obtain ⟨es, cl, e, F⟩ := hm; exact ⟨es, cl, by rw [show w1.heap = W.heap from hw]; exact e, F⟩
  have hr := hm1.run_lookup KStr Try.underlying76 (show (zeroValue 3).run Try.prog w1 = .ok (.int .i64 0) w1 by kernel_rfl) name true
  rw [ha, hi] at hr
  exact hr
 have hHeld0 : SameH W W.drew := rfl
 have hHeld1 : HdC m mb X file line name W.drew.drew := h.head
 have b3 : ∀ w1 : World, HdC m mb X file line name w1 → w1.cell? ⟨m, 3, none⟩ = some (.map (some mb)) := fun w1 hw => cell_of_row _ _ 3 _ _ _ hw
 have b7 : ∀ w1 : World, HdC m mb X file line name w1 → w1.cell? ⟨m, 7, none⟩ = some (.string name) := fun w1 hw => cell_of_row _ _ 7 _ _ _ hw
 have HM1 : Hid (MapIs Value.string natV W.drew.drew mb am) := hm
 have HN2 : Hid (∀ w5 : World, MapIs Value.string natV w5 mb (aset am name X.ps.length) → W.drew.drew.grownBy w5 (some mb) → CIsN w5 base m mb X (X.ps.map PtR.name ++ [name]) file line name ∧ TrnP isPM base W w5) := fun w5 hm5 hg5 => by
  have e : (X.ps.map PtR.name).length = X.ps.length := by simp
  have h2 := CIsN.mapset h ha hi (by rw [e]; exact hm5) (grown_undrew (grown_undrew hg5))
  exact h2
 have hnl : (X.ps.map PtR.name).length = X.ps.length := by simp
 have HNL := hid hnl
 clear h hfl hi hpv ha hm hnl
 generalize hnn : X.ps.length = n at *
 have HNN := hid hnn
 clear hnn
 go_enter Try.func37, Try.ntmps37
 go_upto_region 1 with (fail)
 refine wp_region_held_drew (S := SameH W) (by kernel_rfl) hHeld0 (fun hHeld => ?_)
 refine wpAnyH_take (i := 0) (oi := { dst := some 7, op := Op.move (Operand.tmp 0), type := 75, pos := "frag.go:50", after := #[], guard := none }) (v := ?pav0) rfl (by kernel_rfl) (by kernel_rfl) (by kernel_rfl) (fun _ _ _ h => h) (Or.inl ⟨by rfl, ?pah0⟩) (by assumption) ?par0
 case pah0 => ((intro w hSw; (try dsimp only at hSw); go_simp); try with_reducible rfl)
 try simp only [Act.put, List.setIfInBounds_toArray, List.set_cons_zero, List.set_cons_succ]
 refine wpAnyH_take (i := 1) (oi := { dst := some 8, op := Op.nilCheck (Operand.tmp 7), type := 0, pos := "frag.go:50", after := #[{ on := 0, ground := Ground.data }], guard := none }) (v := ?pav1) rfl (by kernel_rfl) (by kernel_rfl) (by kernel_rfl) (fun _ _ _ h => h) (Or.inl ⟨by rfl, ?pah1⟩) (by assumption) ?par1
 case pah1 => ((intro w hSw; (try dsimp only at hSw); go_simp); try with_reducible rfl)
 try simp only [Act.put, List.setIfInBounds_toArray, List.set_cons_zero, List.set_cons_succ]
 refine wpAnyH_take (i := 2) (oi := { dst := some 9, op := Op.fieldAddr 78 (Operand.tmp 8) 1, type := 0, pos := "frag.go:50", after := #[{ on := 1, ground := Ground.data }], guard := none }) (v := ?pav2) rfl (by kernel_rfl) (by kernel_rfl) (by kernel_rfl) (fun _ _ _ h => h) (Or.inl ⟨by rfl, ?pah2⟩) (by assumption) ?par2
 case pah2 => ((intro w hSw; (try dsimp only at hSw); go_simp); try with_reducible rfl)
 try simp only [Act.put, List.setIfInBounds_toArray, List.set_cons_zero, List.set_cons_succ]
 refine wpAnyH_take (i := 3) (oi := { dst := some 10, op := Op.load 76 (Operand.tmp 9), type := 76, pos := "frag.go:50", after := #[{ on := 2, ground := Ground.data }], guard := none }) (v := ?pav3) rfl (by kernel_rfl) (by kernel_rfl) (by kernel_rfl) (fun _ _ _ h => h) (Or.inl ⟨by rfl, ?pah3⟩) (by assumption) ?par3
 case pah3 => ((intro w hSw; (try dsimp only at hSw); go_simp); try with_reducible rfl)
 try simp only [Act.put, List.setIfInBounds_toArray, List.set_cons_zero, List.set_cons_succ]
 refine wpAnyH_take (i := 4) (oi := { dst := some 11, op := Op.move (Operand.tmp 0), type := 75, pos := "frag.go:50", after := #[], guard := none }) (v := ?pav4) rfl (by kernel_rfl) (by kernel_rfl) (by kernel_rfl) (fun _ _ _ h => h) (Or.inl ⟨by rfl, ?pah4⟩) (by assumption) ?par4
 case pah4 => ((intro w hSw; (try dsimp only at hSw); go_simp); try with_reducible rfl)
 try simp only [Act.put, List.setIfInBounds_toArray, List.set_cons_zero, List.set_cons_succ]
 refine wpAnyH_take (i := 5) (oi := { dst := some 12, op := Op.nilCheck (Operand.tmp 11), type := 0, pos := "frag.go:50", after := #[{ on := 4, ground := Ground.data }], guard := none }) (v := ?pav5) rfl (by kernel_rfl) (by kernel_rfl) (by kernel_rfl) (fun _ _ _ h => h) (Or.inl ⟨by rfl, ?pah5⟩) (by assumption) ?par5
 case pah5 => ((intro w hSw; (try dsimp only at hSw); go_simp); try with_reducible rfl)
 try simp only [Act.put, List.setIfInBounds_toArray, List.set_cons_zero, List.set_cons_succ]
 refine wpAnyH_take (i := 6) (oi := { dst := some 13, op := Op.fieldAddr 78 (Operand.tmp 12) 5, type := 0, pos := "frag.go:50", after := #[{ on := 5, ground := Ground.data }], guard := none }) (v := ?pav6) rfl (by kernel_rfl) (by kernel_rfl) (by kernel_rfl) (fun _ _ _ h => h) (Or.inl ⟨by rfl, ?pah6⟩) (by assumption) ?par6
 case pah6 => ((intro w hSw; (try dsimp only at hSw); go_simp); try with_reducible rfl)
 try simp only [Act.put, List.setIfInBounds_toArray, List.set_cons_zero, List.set_cons_succ]
 refine wpAnyH_take (i := 7) (oi := { dst := some 14, op := Op.load 9 (Operand.tmp 13), type := 9, pos := "frag.go:50", after := #[{ on := 6, ground := Ground.data }], guard := none }) (v := ?pav7) rfl (by kernel_rfl) (by kernel_rfl) (by kernel_rfl) (fun _ _ _ h => h) (Or.inl ⟨by rfl, ?pah7⟩) (by assumption) ?par7
 case pah7 => ((intro w hSw; (try dsimp only at hSw); go_simp); try with_reducible rfl)
 try simp only [Act.put, List.setIfInBounds_toArray, List.set_cons_zero, List.set_cons_succ]
 refine wpAnyH_take (i := 8) (oi := { dst := some 15, op := Op.lookup 76 (Operand.tmp 10) (Operand.tmp 14) true, type := 92, pos := "frag.go:50", after := #[{ on := 3, ground := Ground.data }, { on := 7, ground := Ground.data }], guard := none }) (v := ?pav8) rfl (by kernel_rfl) (by kernel_rfl) (by kernel_rfl) (fun _ _ _ h => h) (Or.inl ⟨by rfl, ?pah8⟩) (by assumption) ?par8
 case pah8 => ((intro w hSw; (try dsimp only at hSw); go_simp); try with_reducible rfl)
 try simp only [Act.put, List.setIfInBounds_toArray, List.set_cons_zero, List.set_cons_succ]
 refine wpAnyH_take (i := 9) (oi := { dst := some 6, op := Op.move (Operand.tmp 15), type := 92, pos := "frag.go:50", after := #[{ on := 8, ground := Ground.data }], guard := none }) (v := ?pav9) rfl (by kernel_rfl) (by kernel_rfl) (by kernel_rfl) (fun _ _ _ h => h) (Or.inl ⟨by rfl, ?pah9⟩) (by assumption) ?par9
 case pah9 => ((intro w hSw; (try dsimp only at hSw); go_simp); try with_reducible rfl)
 try simp only [Act.put, List.setIfInBounds_toArray, List.set_cons_zero, List.set_cons_succ]
 refine wpAnyH_take (i := 10) (oi := { dst := some 16, op := Op.extract (Operand.tmp 6) 0, type := 3, pos := "frag.go:50", after := #[{ on := 9, ground := Ground.data }], guard := none }) (v := ?pav10) rfl (by kernel_rfl) (by kernel_rfl) (by kernel_rfl) (fun _ _ _ h => h) (Or.inl ⟨by rfl, ?pah10⟩) (by assumption) ?par10
 case pah10 => ((intro w hSw; (try dsimp only at hSw); go_simp); try with_reducible rfl)
 try simp only [Act.put, List.setIfInBounds_toArray, List.set_cons_zero, List.set_cons_succ]
 refine wpAnyH_take (i := 11) (oi := { dst := some 17, op := Op.extract (Operand.tmp 6) 1, type := 4, pos := "frag.go:50", after := #[{ on := 9, ground := Ground.data }, { on := 12, ground := Ground.gcOnly Departure.lateStores }], guard := none }) (v := ?pav11) rfl (by kernel_rfl) (by kernel_rfl) (by kernel_rfl) (fun _ _ _ h => h) (Or.inl ⟨by rfl, ?pah11⟩) (by assumption) ?par11
 case pah11 => ((intro w hSw; (try dsimp only at hSw); go_simp); try with_reducible rfl)
 try simp only [Act.put, List.setIfInBounds_toArray, List.set_cons_zero, List.set_cons_succ]
 refine wpAnyH_take (i := 12) (oi := { dst := some 4, op := Op.assign (Operand.tmp 16), type := 3, pos := "frag.go:50", after := #[{ on := 10, ground := Ground.data }, { on := 0, ground := Ground.phase }, { on := 1, ground := Ground.phase }, { on := 2, ground := Ground.phase }, { on := 3, ground := Ground.phase }, { on := 4, ground := Ground.phase }, { on := 5, ground := Ground.phase }, { on := 6, ground := Ground.phase }, { on := 7, ground := Ground.phase }, { on := 8, ground := Ground.phase }, { on := 9, ground := Ground.phase }, { on := 10, ground := Ground.phase }, { on := 11, ground := Ground.textOnly Departure.lateStores }], guard := none }) (v := ?pav12) rfl (by kernel_rfl) (by kernel_rfl) (by kernel_rfl) (fun _ _ _ h => h) (Or.inl ⟨by rfl, ?pah12⟩) (by assumption) ?par12
 case pah12 => ((intro w hSw; (try dsimp only at hSw); go_simp); try with_reducible rfl)
 try simp only [Act.put, List.setIfInBounds_toArray, List.set_cons_zero, List.set_cons_succ]
 refine wpAnyH_take (i := 13) (oi := { dst := some 5, op := Op.assign (Operand.tmp 17), type := 4, pos := "frag.go:50", after := #[{ on := 11, ground := Ground.data }, { on := 12, ground := Ground.chain }, { on := 0, ground := Ground.phase }, { on := 1, ground := Ground.phase }, { on := 2, ground := Ground.phase }, { on := 3, ground := Ground.phase }, { on := 4, ground := Ground.phase }, { on := 5, ground := Ground.phase }, { on := 6, ground := Ground.phase }, { on := 7, ground := Ground.phase }, { on := 8, ground := Ground.phase }, { on := 9, ground := Ground.phase }, { on := 10, ground := Ground.phase }, { on := 11, ground := Ground.phase }, { on := 12, ground := Ground.phase }], guard := none }) (v := ?pav13) rfl (by kernel_rfl) (by kernel_rfl) (by kernel_rfl) (fun _ _ _ h => h) (Or.inl ⟨by rfl, ?pah13⟩) (by assumption) ?par13
 case pah13 => ((intro w hSw; (try dsimp only at hSw); go_simp); try with_reducible rfl)
 try simp only [Act.put, List.setIfInBounds_toArray, List.set_cons_zero, List.set_cons_succ]
 refine wpAnyH_done (by kernel_rfl) ?_ _
 go_upto_region 4 with (fail)
 go_cut [4] (fun nv wx => nv = .int .i64 (n : Nat) ∧ CIsN wx base m mb X (X.ps.map PtR.name ++ [name]) file line name ∧ TrnP isPM base W wx)
 case first =>
  refine wp_region_held_drew (S := HdC m mb X file line name) (by kernel_rfl) hHeld1 (fun hHeld => ?_)
  refine wpAnyH_take (i := 0) (oi := { dst := some 26, op := Op.move (Operand.tmp 0), type := 75, pos := "frag.go:53", after := #[], guard := none }) (v := ?pbv0) rfl (by kernel_rfl) (by kernel_rfl) (by kernel_rfl) (fun _ _ _ h => h) (Or.inl ⟨by rfl, ?pbh0⟩) (by assumption) ?pbr0
  case pbh0 => ((intro w hSw; (try dsimp only at hSw); go_simp); try with_reducible rfl)
  try simp only [Act.put, List.setIfInBounds_toArray, List.set_cons_zero, List.set_cons_succ]
  refine wpAnyH_take (i := 1) (oi := { dst := some 27, op := Op.nilCheck (Operand.tmp 26), type := 0, pos := "frag.go:53", after := #[{ on := 0, ground := Ground.data }], guard := none }) (v := ?pbv1) rfl (by kernel_rfl) (by kernel_rfl) (by kernel_rfl) (fun _ _ _ h => h) (Or.inl ⟨by rfl, ?pbh1⟩) (by assumption) ?pbr1
  case pbh1 => ((intro w hSw; (try dsimp only at hSw); go_simp); try with_reducible rfl)
  try simp only [Act.put, List.setIfInBounds_toArray, List.set_cons_zero, List.set_cons_succ]
  refine wpAnyH_take (i := 2) (oi := { dst := some 28, op := Op.fieldAddr 78 (Operand.tmp 27) 1, type := 0, pos := "frag.go:53", after := #[{ on := 1, ground := Ground.data }], guard := none }) (v := ?pbv2) rfl (by kernel_rfl) (by kernel_rfl) (by kernel_rfl) (fun _ _ _ h => h) (Or.inl ⟨by rfl, ?pbh2⟩) (by assumption) ?pbr2
  case pbh2 => ((intro w hSw; (try dsimp only at hSw); go_simp); try with_reducible rfl)
  try simp only [Act.put, List.setIfInBounds_toArray, List.set_cons_zero, List.set_cons_succ]
  refine wpAnyH_take (i := 3) (oi := { dst := some 29, op := Op.load 76 (Operand.tmp 28), type := 76, pos := "frag.go:53", after := #[{ on := 2, ground := Ground.data }], guard := none }) (v := ?pbv3) rfl (by kernel_rfl) (by kernel_rfl) (by kernel_rfl) (fun _ _ _ h => h) (Or.inl ⟨by rfl, ?pbh3⟩) (by assumption) ?pbr3
  case pbh3 => ((intro w hSw; (try dsimp only at hSw); go_simp); try with_reducible rfl)
  try simp only [Act.put, List.setIfInBounds_toArray, List.set_cons_zero, List.set_cons_succ]
  refine wpAnyH_take (i := 4) (oi := { dst := some 30, op := Op.move (Operand.tmp 0), type := 75, pos := "frag.go:53", after := #[], guard := none }) (v := ?pbv4) rfl (by kernel_rfl) (by kernel_rfl) (by kernel_rfl) (fun _ _ _ h => h) (Or.inl ⟨by rfl, ?pbh4⟩) (by assumption) ?pbr4
  case pbh4 => ((intro w hSw; (try dsimp only at hSw); go_simp); try with_reducible rfl)
  try simp only [Act.put, List.setIfInBounds_toArray, List.set_cons_zero, List.set_cons_succ]
  refine wpAnyH_take (i := 5) (oi := { dst := some 31, op := Op.nilCheck (Operand.tmp 30), type := 0, pos := "frag.go:53", after := #[{ on := 4, ground := Ground.data }], guard := none }) (v := ?pbv5) rfl (by kernel_rfl) (by kernel_rfl) (by kernel_rfl) (fun _ _ _ h => h) (Or.inl ⟨by rfl, ?pbh5⟩) (by assumption) ?pbr5
  case pbh5 => ((intro w hSw; (try dsimp only at hSw); go_simp); try with_reducible rfl)
  try simp only [Act.put, List.setIfInBounds_toArray, List.set_cons_zero, List.set_cons_succ]
  refine wpAnyH_take (i := 6) (oi := { dst := some 32, op := Op.fieldAddr 78 (Operand.tmp 31) 5, type := 0, pos := "frag.go:53", after := #[{ on := 5, ground := Ground.data }], guard := none }) (v := ?pbv6) rfl (by kernel_rfl) (by kernel_rfl) (by kernel_rfl) (fun _ _ _ h => h) (Or.inl ⟨by rfl, ?pbh6⟩) (by assumption) ?pbr6
  case pbh6 => ((intro w hSw; (try dsimp only at hSw); go_simp); try with_reducible rfl)
  try simp only [Act.put, List.setIfInBounds_toArray, List.set_cons_zero, List.set_cons_succ]
  refine wpAnyH_take (i := 7) (oi := { dst := some 33, op := Op.load 9 (Operand.tmp 32), type := 9, pos := "frag.go:53", after := #[{ on := 6, ground := Ground.data }], guard := none }) (v := ?pbv7) rfl (by kernel_rfl) (by kernel_rfl) (by kernel_rfl) (fun _ _ _ h => h) (Or.inl ⟨by rfl, ?pbh7⟩) (by assumption) ?pbr7
  case pbh7 => ((intro w hSw; (try dsimp only at hSw); go_simp); try with_reducible rfl)
  try simp only [Act.put, List.setIfInBounds_toArray, List.set_cons_zero, List.set_cons_succ]
  refine wpAnyH_take (i := 8) (oi := { dst := some 34, op := Op.move (Operand.tmp 4), type := 3, pos := "frag.go:53", after := #[], guard := none }) (v := ?pbv8) rfl (by kernel_rfl) (by kernel_rfl) (by kernel_rfl) (fun _ _ _ h => h) (Or.inl ⟨by rfl, ?pbh8⟩) (by assumption) ?pbr8
  case pbh8 => ((intro w hSw; (try dsimp only at hSw); go_simp); try with_reducible rfl)
  try simp only [Act.put, List.setIfInBounds_toArray, List.set_cons_zero, List.set_cons_succ]
  refine wpAnyH_ready (rs := [9]) (by kernel_rfl) (by simp) ?_
  refine AllReadyH.cons (o := { dst := none, op := Op.mapUpdate 76 (Operand.tmp 29) (Operand.tmp 33) (Operand.tmp 34), type := 0, pos := "frag.go:53", after := #[{ on := 3, ground := Ground.data }, { on := 7, ground := Ground.data }, { on := 8, ground := Ground.data }, { on := 0, ground := Ground.phase }, { on := 1, ground := Ground.phase }, { on := 2, ground := Ground.phase }, { on := 3, ground := Ground.phase }, { on := 4, ground := Ground.phase }, { on := 5, ground := Ground.phase }, { on := 6, ground := Ground.phase }, { on := 7, ground := Ground.phase }, { on := 8, ground := Ground.phase }], guard := none }) rfl (fun K hK => ?_) AllReadyH.nil
  (refine step_mapset KStr Try.underlying76 rfl (.tmp 29) (.tmp 33) (.tmp 34) (Or.inl rfl) mb am rfl HM1.out name rfl n rfl ?_); intro w5 hm5 hg5; have H5 := hid (HN2.out w5 hm5 hg5); refine hK.out _ _ H5.out.1.head (fun hHeld => ?_)
  clear hK K
  try simp only [Act.put, List.setIfInBounds_toArray, List.set_cons_zero, List.set_cons_succ]
  refine wpAnyH_done (by kernel_rfl) ?_ _
  go_wp2_with fail
  go_meet
  exact ⟨rfl, H5.out⟩
 case rest =>
  obtain ⟨rfl, h5, ht5⟩ := hcut
  have H5 := hid h5
  have HT5 := hid ht5
  obtain ⟨d0, d1, d2, d3, d4, hfl5⟩ := h5.cells
  have hz5 := h5.hz
  rw [HPV.out] at d0
  have HP7 : Hid (wc.ownsRow base 50 4 (.slice pv n cv) n (X.ps.flatMap PtR.cells)) := by have := h5.is.parts; rw [HPV.out, HNN.out] at this; exact this
  have HVC : Hid (X.pv.ownBlock = (Value.slice pv n cv).ownBlock) := by unfold Hid; rw [HPV.out]
  have HSL : Hid (∀ o : Obj, FL m 5 file line name (wc.alloc o).drew) := fun o => (hfl5.blk (Below.heap_alloc wc o m h5.lt)).drew
  have HH0 : Hid (FL m 5 file line name wc.drew) := hfl5.drew
  have d0L : ∀ o : Obj, (wc.alloc o).cell? ⟨m, 0, none⟩ = some (.slice pv n cv) := fun o => (World.cell?_of_block (a := ⟨m, 0, none⟩) (Below.heap_alloc wc o m h5.lt)).trans d0
  have a5 : ∀ w' : World, FL m 5 file line name w' → w'.cell? ⟨m, 5, none⟩ = some (.int .i64 file) := fun _ h => h.f
  have a6 : ∀ w' : World, FL m 5 file line name w' → w'.cell? ⟨m, 6, none⟩ = some (.int .i64 line) := fun _ h => h.l
  have a8 : ∀ w' : World, FL m 5 file line name w' → w'.cell? ⟨m, 7, none⟩ = some (.string name) := fun _ h => h.n
  clear h5 hfl5 d1 d2 d3 d4 c0 c1 c2 c3 c4 c7 a3 a7 alk b3 b7 hHeld0 hHeld1
  go_upto_region 5 with (fail)
  go_cut [4] (fun nv wx => nv = .int .i64 (n : Nat) ∧ ∃ v', CIsN wx base m mb { X with pv := v', ps := X.ps ++ [⟨name, file, line, ⟨none, 0, []⟩⟩] } (X.ps.map PtR.name ++ [name]) file line name ∧ TrnP isPM base wc wx)
  case first =>
   refine wp_region_held_drew (S := FL m 5 file line name) (by kernel_rfl) HH0.out (fun hHeld => ?_)
   refine wpAnyH_take (i := 0) (oi := { dst := some 35, op := Op.move (Operand.tmp 0), type := 75, pos := "frag.go:54", after := #[], guard := none }) (v := ?pcv0) rfl (by kernel_rfl) (by kernel_rfl) (by kernel_rfl) (fun _ _ _ h => h) (Or.inl ⟨by rfl, ?pch0⟩) (by assumption) ?pcr0
   case pch0 => ((intro w hSw; (try dsimp only at hSw); go_simp); try with_reducible rfl)
   try simp only [Act.put, List.setIfInBounds_toArray, List.set_cons_zero, List.set_cons_succ]
   refine wpAnyH_take (i := 1) (oi := { dst := some 36, op := Op.move (Operand.tmp 0), type := 75, pos := "frag.go:54", after := #[], guard := none }) (v := ?pcv1) rfl (by kernel_rfl) (by kernel_rfl) (by kernel_rfl) (fun _ _ _ h => h) (Or.inl ⟨by rfl, ?pch1⟩) (by assumption) ?pcr1
   case pch1 => ((intro w hSw; (try dsimp only at hSw); go_simp); try with_reducible rfl)
   try simp only [Act.put, List.setIfInBounds_toArray, List.set_cons_zero, List.set_cons_succ]
   refine wpAnyH_take (i := 2) (oi := { dst := some 37, op := Op.nilCheck (Operand.tmp 36), type := 0, pos := "frag.go:54", after := #[{ on := 1, ground := Ground.data }], guard := none }) (v := ?pcv2) rfl (by kernel_rfl) (by kernel_rfl) (by kernel_rfl) (fun _ _ _ h => h) (Or.inl ⟨by rfl, ?pch2⟩) (by assumption) ?pcr2
   case pch2 => ((intro w hSw; (try dsimp only at hSw); go_simp); try with_reducible rfl)
   try simp only [Act.put, List.setIfInBounds_toArray, List.set_cons_zero, List.set_cons_succ]
   refine wpAnyH_take (i := 3) (oi := { dst := some 38, op := Op.fieldAddr 78 (Operand.tmp 37) 0, type := 0, pos := "frag.go:54", after := #[{ on := 2, ground := Ground.data }], guard := none }) (v := ?pcv3) rfl (by kernel_rfl) (by kernel_rfl) (by kernel_rfl) (fun _ _ _ h => h) (Or.inl ⟨by rfl, ?pch3⟩) (by assumption) ?pcr3
   case pch3 => ((intro w hSw; (try dsimp only at hSw); go_simp); try with_reducible rfl)
   try simp only [Act.put, List.setIfInBounds_toArray, List.set_cons_zero, List.set_cons_succ]
   refine wpAnyH_take (i := 4) (oi := { dst := some 39, op := Op.fieldAddr 32 (Operand.tmp 38) 0, type := 0, pos := "frag.go:54", after := #[{ on := 3, ground := Ground.data }], guard := none }) (v := ?pcv4) rfl (by kernel_rfl) (by kernel_rfl) (by kernel_rfl) (fun _ _ _ h => h) (Or.inl ⟨by rfl, ?pch4⟩) (by assumption) ?pcr4
   case pch4 => ((intro w hSw; (try dsimp only at hSw); go_simp); try with_reducible rfl)
   try simp only [Act.put, List.setIfInBounds_toArray, List.set_cons_zero, List.set_cons_succ]
   refine wpAnyH_take (i := 6) (oi := { dst := some 41, op := Op.move (Operand.tmp 0), type := 75, pos := "frag.go:54", after := #[], guard := none }) (v := ?pcv6) rfl (by kernel_rfl) (by kernel_rfl) (by kernel_rfl) (fun _ _ _ h => h) (Or.inl ⟨by rfl, ?pch6⟩) (by assumption) ?pcr6
   case pch6 => ((intro w hSw; (try dsimp only at hSw); go_simp); try with_reducible rfl)
   try simp only [Act.put, List.setIfInBounds_toArray, List.set_cons_zero, List.set_cons_succ]
   refine wpAnyH_take (i := 7) (oi := { dst := some 42, op := Op.nilCheck (Operand.tmp 41), type := 0, pos := "frag.go:54", after := #[{ on := 6, ground := Ground.data }], guard := none }) (v := ?pcv7) rfl (by kernel_rfl) (by kernel_rfl) (by kernel_rfl) (fun _ _ _ h => h) (Or.inl ⟨by rfl, ?pch7⟩) (by assumption) ?pcr7
   case pch7 => ((intro w hSw; (try dsimp only at hSw); go_simp); try with_reducible rfl)
   try simp only [Act.put, List.setIfInBounds_toArray, List.set_cons_zero, List.set_cons_succ]
   refine wpAnyH_take (i := 8) (oi := { dst := some 43, op := Op.fieldAddr 78 (Operand.tmp 42) 5, type := 0, pos := "frag.go:54", after := #[{ on := 7, ground := Ground.data }], guard := none }) (v := ?pcv8) rfl (by kernel_rfl) (by kernel_rfl) (by kernel_rfl) (fun _ _ _ h => h) (Or.inl ⟨by rfl, ?pch8⟩) (by assumption) ?pcr8
   case pch8 => ((intro w hSw; (try dsimp only at hSw); go_simp); try with_reducible rfl)
   try simp only [Act.put, List.setIfInBounds_toArray, List.set_cons_zero, List.set_cons_succ]
   refine wpAnyH_take (i := 9) (oi := { dst := some 44, op := Op.load 9 (Operand.tmp 43), type := 9, pos := "frag.go:54", after := #[{ on := 8, ground := Ground.data }], guard := none }) (v := ?pcv9) rfl (by kernel_rfl) (by kernel_rfl) (by kernel_rfl) (fun _ _ _ h => h) (Or.inl ⟨by rfl, ?pch9⟩) (by assumption) ?pcr9
   case pch9 => ((intro w hSw; (try dsimp only at hSw); go_simp); try with_reducible rfl)
   try simp only [Act.put, List.setIfInBounds_toArray, List.set_cons_zero, List.set_cons_succ]
   refine wpAnyH_take (i := 10) (oi := { dst := some 45, op := Op.move (Operand.tmp 0), type := 75, pos := "frag.go:54", after := #[], guard := none }) (v := ?pcv10) rfl (by kernel_rfl) (by kernel_rfl) (by kernel_rfl) (fun _ _ _ h => h) (Or.inl ⟨by rfl, ?pch10⟩) (by assumption) ?pcr10
   case pch10 => ((intro w hSw; (try dsimp only at hSw); go_simp); try with_reducible rfl)
   try simp only [Act.put, List.setIfInBounds_toArray, List.set_cons_zero, List.set_cons_succ]
   refine wpAnyH_take (i := 11) (oi := { dst := some 46, op := Op.nilCheck (Operand.tmp 45), type := 0, pos := "frag.go:54", after := #[{ on := 10, ground := Ground.data }], guard := none }) (v := ?pcv11) rfl (by kernel_rfl) (by kernel_rfl) (by kernel_rfl) (fun _ _ _ h => h) (Or.inl ⟨by rfl, ?pch11⟩) (by assumption) ?pcr11
   case pch11 => ((intro w hSw; (try dsimp only at hSw); go_simp); try with_reducible rfl)
   try simp only [Act.put, List.setIfInBounds_toArray, List.set_cons_zero, List.set_cons_succ]
   refine wpAnyH_take (i := 12) (oi := { dst := some 47, op := Op.fieldAddr 78 (Operand.tmp 46) 3, type := 0, pos := "frag.go:54", after := #[{ on := 11, ground := Ground.data }], guard := none }) (v := ?pcv12) rfl (by kernel_rfl) (by kernel_rfl) (by kernel_rfl) (fun _ _ _ h => h) (Or.inl ⟨by rfl, ?pch12⟩) (by assumption) ?pcr12
   case pch12 => ((intro w hSw; (try dsimp only at hSw); go_simp); try with_reducible rfl)
   try simp only [Act.put, List.setIfInBounds_toArray, List.set_cons_zero, List.set_cons_succ]
   refine wpAnyH_take (i := 13) (oi := { dst := some 48, op := Op.load 3 (Operand.tmp 47), type := 3, pos := "frag.go:54", after := #[{ on := 12, ground := Ground.data }], guard := none }) (v := ?pcv13) rfl (by kernel_rfl) (by kernel_rfl) (by kernel_rfl) (fun _ _ _ h => h) (Or.inl ⟨by rfl, ?pch13⟩) (by assumption) ?pcr13
   case pch13 => ((intro w hSw; (try dsimp only at hSw); go_simp); try with_reducible rfl)
   try simp only [Act.put, List.setIfInBounds_toArray, List.set_cons_zero, List.set_cons_succ]
   refine wpAnyH_take (i := 14) (oi := { dst := some 49, op := Op.move (Operand.tmp 0), type := 75, pos := "frag.go:54", after := #[], guard := none }) (v := ?pcv14) rfl (by kernel_rfl) (by kernel_rfl) (by kernel_rfl) (fun _ _ _ h => h) (Or.inl ⟨by rfl, ?pch14⟩) (by assumption) ?pcr14
   case pch14 => ((intro w hSw; (try dsimp only at hSw); go_simp); try with_reducible rfl)
   try simp only [Act.put, List.setIfInBounds_toArray, List.set_cons_zero, List.set_cons_succ]
   refine wpAnyH_take (i := 15) (oi := { dst := some 50, op := Op.nilCheck (Operand.tmp 49), type := 0, pos := "frag.go:54", after := #[{ on := 14, ground := Ground.data }], guard := none }) (v := ?pcv15) rfl (by kernel_rfl) (by kernel_rfl) (by kernel_rfl) (fun _ _ _ h => h) (Or.inl ⟨by rfl, ?pch15⟩) (by assumption) ?pcr15
   case pch15 => ((intro w hSw; (try dsimp only at hSw); go_simp); try with_reducible rfl)
   try simp only [Act.put, List.setIfInBounds_toArray, List.set_cons_zero, List.set_cons_succ]
   refine wpAnyH_take (i := 16) (oi := { dst := some 51, op := Op.fieldAddr 78 (Operand.tmp 50) 4, type := 0, pos := "frag.go:54", after := #[{ on := 15, ground := Ground.data }], guard := none }) (v := ?pcv16) rfl (by kernel_rfl) (by kernel_rfl) (by kernel_rfl) (fun _ _ _ h => h) (Or.inl ⟨by rfl, ?pch16⟩) (by assumption) ?pcr16
   case pch16 => ((intro w hSw; (try dsimp only at hSw); go_simp); try with_reducible rfl)
   try simp only [Act.put, List.setIfInBounds_toArray, List.set_cons_zero, List.set_cons_succ]
   refine wpAnyH_take (i := 17) (oi := { dst := some 52, op := Op.load 3 (Operand.tmp 51), type := 3, pos := "frag.go:54", after := #[{ on := 16, ground := Ground.data }], guard := none }) (v := ?pcv17) rfl (by kernel_rfl) (by kernel_rfl) (by kernel_rfl) (fun _ _ _ h => h) (Or.inl ⟨by rfl, ?pch17⟩) (by assumption) ?pcr17
   case pch17 => ((intro w hSw; (try dsimp only at hSw); go_simp); try with_reducible rfl)
   try simp only [Act.put, List.setIfInBounds_toArray, List.set_cons_zero, List.set_cons_succ]
   refine wpAnyH_take (i := 18) (oi := { dst := some 53, op := Op.build 50 #[(0, Operand.tmp 44), (1, Operand.tmp 48), (2, Operand.tmp 52)], type := 50, pos := "frag.go:54", after := #[{ on := 9, ground := Ground.data }, { on := 13, ground := Ground.data }, { on := 17, ground := Ground.data }], guard := none }) (v := ?pcv18) rfl (by kernel_rfl) (by kernel_rfl) (by kernel_rfl) (fun _ _ _ h => h) (Or.inl ⟨by rfl, ?pch18⟩) (by assumption) ?pcr18
   case pch18 => ((intro w hSw; (try dsimp only at hSw); go_simp); try with_reducible rfl)
   try simp only [Act.put, List.setIfInBounds_toArray, List.set_cons_zero, List.set_cons_succ]
   refine wpAnyH_ready (rs := [5, 19]) (by kernel_rfl) (by simp) ?_
   refine AllReadyH.cons (o := { dst := some 40, op := Op.load 28 (Operand.tmp 39), type := 28, pos := "frag.go:54", after := #[{ on := 4, ground := Ground.data }], guard := none }) rfl (fun K hK => ?_) ?_
   ·go_simp; refine hK.out _ _ (by first | exact HH0.out | exact HSL.out _) (fun hHeld => ?_)
    clear hK K
    try simp only [Act.put, List.setIfInBounds_toArray, List.set_cons_zero, List.set_cons_succ]
    refine wpAnyH_ready (rs := [19]) (by kernel_rfl) (by simp) ?_
    refine AllReadyH.cons (o := { dst := some 54, op := Op.buildSlice 28 1 #[(0, Operand.tmp 53)], type := 28, pos := "frag.go:54", after := #[{ on := 18, ground := Ground.data }], guard := none }) rfl (fun K hK => ?_) AllReadyH.nil
    go_simp; refine hK.out _ _ (HSL.out _) (fun hHeld => ?_)
    clear hK K
    try simp only [Act.put, List.setIfInBounds_toArray, List.set_cons_zero, List.set_cons_succ]
    refine wpAnyH_ready (rs := [20]) (by kernel_rfl) (by simp) ?_
    refine AllReadyH.cons (o := { dst := some 55, op := Op.call { callee := Callee.builtin Builtin.append, args := #[Operand.tmp 40, Operand.tmp 54], argTypes := #[28, 28] }, type := 28, pos := "frag.go:54", after := #[{ on := 5, ground := Ground.data }, { on := 19, ground := Ground.data }], guard := none }) rfl (fun K hK => ?_) AllReadyH.nil
    (refine step_app EPart rfl (.tmp 40) (.tmp 54) rfl base (.slice pv n cv) n (X.ps.flatMap PtR.cells) rfl (HP7.out.alloc _) _ 1 1 (PtR.cells ⟨name, file, line, ⟨none, 0, []⟩⟩) rfl rfl (row_newAt _ _ _ _ rfl) (ptr_ones _) (by unfold maxLen; omega) (by omega) (by simp; omega) ?_); intro vp' w8 ho8 hg8 hs8; obtain ⟨p8, c8, rfl, -⟩ := own_shape ho8; have HO8 := hid ho8; have HG8 := hid hg8; clear ho8 hg8 hs8; obtain ⟨hh8, ha8⟩ := H5.out.appPart (by rw [HVC.out]; exact HG8.out); have HA8 := hid ha8; have zf0 := frozen_of_row _ _ 0 _ _ hh8; have z0 := cell_of_row _ _ 0 _ _ _ hh8; clear hh8 ha8; refine hK.out _ _ HA8.out (fun hHeld => ?_)
    clear hK K
    try simp only [Act.put, List.setIfInBounds_toArray, List.set_cons_zero, List.set_cons_succ]
    refine wpAnyH_take (i := 21) (oi := { dst := some 56, op := Op.nilCheck (Operand.tmp 35), type := 0, pos := "frag.go:54", after := #[{ on := 0, ground := Ground.data }, { on := 0, ground := Ground.phase }, { on := 1, ground := Ground.phase }, { on := 2, ground := Ground.phase }, { on := 3, ground := Ground.phase }, { on := 4, ground := Ground.phase }, { on := 5, ground := Ground.phase }, { on := 6, ground := Ground.phase }, { on := 7, ground := Ground.phase }, { on := 8, ground := Ground.phase }, { on := 9, ground := Ground.phase }, { on := 10, ground := Ground.phase }, { on := 11, ground := Ground.phase }, { on := 12, ground := Ground.phase }, { on := 13, ground := Ground.phase }, { on := 14, ground := Ground.phase }, { on := 15, ground := Ground.phase }, { on := 16, ground := Ground.phase }, { on := 17, ground := Ground.phase }, { on := 18, ground := Ground.phase }, { on := 19, ground := Ground.phase }, { on := 20, ground := Ground.phase }], guard := none }) (v := ?pcav21) rfl (by kernel_rfl) (by kernel_rfl) (by kernel_rfl) (fun _ _ _ h => h) (Or.inl ⟨by rfl, ?pcah21⟩) (by assumption) ?pcar21
    case pcah21 => ((intro w hSw; (try dsimp only at hSw); go_simp); try with_reducible rfl)
    try simp only [Act.put, List.setIfInBounds_toArray, List.set_cons_zero, List.set_cons_succ]
    refine wpAnyH_take (i := 22) (oi := { dst := some 57, op := Op.fieldAddr 78 (Operand.tmp 56) 0, type := 0, pos := "frag.go:54", after := #[{ on := 21, ground := Ground.data }, { on := 0, ground := Ground.phase }, { on := 1, ground := Ground.phase }, { on := 2, ground := Ground.phase }, { on := 3, ground := Ground.phase }, { on := 4, ground := Ground.phase }, { on := 5, ground := Ground.phase }, { on := 6, ground := Ground.phase }, { on := 7, ground := Ground.phase }, { on := 8, ground := Ground.phase }, { on := 9, ground := Ground.phase }, { on := 10, ground := Ground.phase }, { on := 11, ground := Ground.phase }, { on := 12, ground := Ground.phase }, { on := 13, ground := Ground.phase }, { on := 14, ground := Ground.phase }, { on := 15, ground := Ground.phase }, { on := 16, ground := Ground.phase }, { on := 17, ground := Ground.phase }, { on := 18, ground := Ground.phase }, { on := 19, ground := Ground.phase }, { on := 20, ground := Ground.phase }], guard := none }) (v := ?pcav22) rfl (by kernel_rfl) (by kernel_rfl) (by kernel_rfl) (fun _ _ _ h => h) (Or.inl ⟨by rfl, ?pcah22⟩) (by assumption) ?pcar22
    case pcah22 => ((intro w hSw; (try dsimp only at hSw); go_simp); try with_reducible rfl)
    try simp only [Act.put, List.setIfInBounds_toArray, List.set_cons_zero, List.set_cons_succ]
    refine wpAnyH_take (i := 23) (oi := { dst := some 58, op := Op.fieldAddr 32 (Operand.tmp 57) 0, type := 0, pos := "frag.go:54", after := #[{ on := 22, ground := Ground.data }, { on := 0, ground := Ground.phase }, { on := 1, ground := Ground.phase }, { on := 2, ground := Ground.phase }, { on := 3, ground := Ground.phase }, { on := 4, ground := Ground.phase }, { on := 5, ground := Ground.phase }, { on := 6, ground := Ground.phase }, { on := 7, ground := Ground.phase }, { on := 8, ground := Ground.phase }, { on := 9, ground := Ground.phase }, { on := 10, ground := Ground.phase }, { on := 11, ground := Ground.phase }, { on := 12, ground := Ground.phase }, { on := 13, ground := Ground.phase }, { on := 14, ground := Ground.phase }, { on := 15, ground := Ground.phase }, { on := 16, ground := Ground.phase }, { on := 17, ground := Ground.phase }, { on := 18, ground := Ground.phase }, { on := 19, ground := Ground.phase }, { on := 20, ground := Ground.phase }], guard := none }) (v := ?pcav23) rfl (by kernel_rfl) (by kernel_rfl) (by kernel_rfl) (fun _ _ _ h => h) (Or.inl ⟨by rfl, ?pcah23⟩) (by assumption) ?pcar23
    case pcah23 => ((intro w hSw; (try dsimp only at hSw); go_simp); try with_reducible rfl)
    try simp only [Act.put, List.setIfInBounds_toArray, List.set_cons_zero, List.set_cons_succ]
    refine wpAnyH_ready (rs := [24]) (by kernel_rfl) (by simp) ?_
    refine AllReadyH.cons (o := { dst := none, op := Op.store 28 (Operand.tmp 58) (Operand.tmp 55), type := 0, pos := "frag.go:54", after := #[{ on := 23, ground := Ground.data }, { on := 20, ground := Ground.data }, { on := 20, ground := Ground.chain }, { on := 0, ground := Ground.phase }, { on := 1, ground := Ground.phase }, { on := 2, ground := Ground.phase }, { on := 3, ground := Ground.phase }, { on := 4, ground := Ground.phase }, { on := 5, ground := Ground.phase }, { on := 6, ground := Ground.phase }, { on := 7, ground := Ground.phase }, { on := 8, ground := Ground.phase }, { on := 9, ground := Ground.phase }, { on := 10, ground := Ground.phase }, { on := 11, ground := Ground.phase }, { on := 12, ground := Ground.phase }, { on := 13, ground := Ground.phase }, { on := 14, ground := Ground.phase }, { on := 15, ground := Ground.phase }, { on := 16, ground := Ground.phase }, { on := 17, ground := Ground.phase }, { on := 18, ground := Ground.phase }, { on := 19, ground := Ground.phase }, { on := 20, ground := Ground.phase }], guard := none }) rfl (fun K hK => ?_) AllReadyH.nil
    go_simp; refine hK.out _ _ (HA8.out.set (by decide) _) (fun hHeld => ?_)
    clear hK K
    try simp only [Act.put, List.setIfInBounds_toArray, List.set_cons_zero, List.set_cons_succ]
    refine wpAnyH_done (by kernel_rfl) ?_ _
    go_wp2_with fail
    have hfin := H5.out.finPart ⟨name, file, line, ⟨none, 0, []⟩⟩ rfl (by rw [HNN.out]; exact HO8.out) (by rw [HVC.out]; exact HG8.out)
    go_meet
    exact ⟨rfl, _, hfin⟩
   refine AllReadyH.cons (o := { dst := some 54, op := Op.buildSlice 28 1 #[(0, Operand.tmp 53)], type := 28, pos := "frag.go:54", after := #[{ on := 18, ground := Ground.data }], guard := none }) rfl (fun K hK => ?_) AllReadyH.nil
   go_simp; refine hK.out _ _ (HSL.out _) (fun hHeld => ?_)
   clear hK K
   try simp only [Act.put, List.setIfInBounds_toArray, List.set_cons_zero, List.set_cons_succ]
   refine wpAnyH_ready (rs := [5]) (by kernel_rfl) (by simp) ?_
   refine AllReadyH.cons (o := { dst := some 40, op := Op.load 28 (Operand.tmp 39), type := 28, pos := "frag.go:54", after := #[{ on := 4, ground := Ground.data }], guard := none }) rfl (fun K hK => ?_) AllReadyH.nil
   go_simp; refine hK.out _ _ (by first | exact HH0.out | exact HSL.out _) (fun hHeld => ?_)
   clear hK K
   try simp only [Act.put, List.setIfInBounds_toArray, List.set_cons_zero, List.set_cons_succ]
   refine wpAnyH_ready (rs := [20]) (by kernel_rfl) (by simp) ?_
   refine AllReadyH.cons (o := { dst := some 55, op := Op.call { callee := Callee.builtin Builtin.append, args := #[Operand.tmp 40, Operand.tmp 54], argTypes := #[28, 28] }, type := 28, pos := "frag.go:54", after := #[{ on := 5, ground := Ground.data }, { on := 19, ground := Ground.data }], guard := none }) rfl (fun K hK => ?_) AllReadyH.nil
   (refine step_app EPart rfl (.tmp 40) (.tmp 54) rfl base (.slice pv n cv) n (X.ps.flatMap PtR.cells) rfl (HP7.out.alloc _) _ 1 1 (PtR.cells ⟨name, file, line, ⟨none, 0, []⟩⟩) rfl rfl (row_newAt _ _ _ _ rfl) (ptr_ones _) (by unfold maxLen; omega) (by omega) (by simp; omega) ?_); intro vp' w8 ho8 hg8 hs8; obtain ⟨p8, c8, rfl, -⟩ := own_shape ho8; have HO8 := hid ho8; have HG8 := hid hg8; clear ho8 hg8 hs8; obtain ⟨hh8, ha8⟩ := H5.out.appPart (by rw [HVC.out]; exact HG8.out); have HA8 := hid ha8; have zf0 := frozen_of_row _ _ 0 _ _ hh8; have z0 := cell_of_row _ _ 0 _ _ _ hh8; clear hh8 ha8; refine hK.out _ _ HA8.out (fun hHeld => ?_)
   clear hK K
   try simp only [Act.put, List.setIfInBounds_toArray, List.set_cons_zero, List.set_cons_succ]
   refine wpAnyH_take (i := 21) (oi := { dst := some 56, op := Op.nilCheck (Operand.tmp 35), type := 0, pos := "frag.go:54", after := #[{ on := 0, ground := Ground.data }, { on := 0, ground := Ground.phase }, { on := 1, ground := Ground.phase }, { on := 2, ground := Ground.phase }, { on := 3, ground := Ground.phase }, { on := 4, ground := Ground.phase }, { on := 5, ground := Ground.phase }, { on := 6, ground := Ground.phase }, { on := 7, ground := Ground.phase }, { on := 8, ground := Ground.phase }, { on := 9, ground := Ground.phase }, { on := 10, ground := Ground.phase }, { on := 11, ground := Ground.phase }, { on := 12, ground := Ground.phase }, { on := 13, ground := Ground.phase }, { on := 14, ground := Ground.phase }, { on := 15, ground := Ground.phase }, { on := 16, ground := Ground.phase }, { on := 17, ground := Ground.phase }, { on := 18, ground := Ground.phase }, { on := 19, ground := Ground.phase }, { on := 20, ground := Ground.phase }], guard := none }) (v := ?pcbv21) rfl (by kernel_rfl) (by kernel_rfl) (by kernel_rfl) (fun _ _ _ h => h) (Or.inl ⟨by rfl, ?pcbh21⟩) (by assumption) ?pcbr21
   case pcbh21 => ((intro w hSw; (try dsimp only at hSw); go_simp); try with_reducible rfl)
   try simp only [Act.put, List.setIfInBounds_toArray, List.set_cons_zero, List.set_cons_succ]
   refine wpAnyH_take (i := 22) (oi := { dst := some 57, op := Op.fieldAddr 78 (Operand.tmp 56) 0, type := 0, pos := "frag.go:54", after := #[{ on := 21, ground := Ground.data }, { on := 0, ground := Ground.phase }, { on := 1, ground := Ground.phase }, { on := 2, ground := Ground.phase }, { on := 3, ground := Ground.phase }, { on := 4, ground := Ground.phase }, { on := 5, ground := Ground.phase }, { on := 6, ground := Ground.phase }, { on := 7, ground := Ground.phase }, { on := 8, ground := Ground.phase }, { on := 9, ground := Ground.phase }, { on := 10, ground := Ground.phase }, { on := 11, ground := Ground.phase }, { on := 12, ground := Ground.phase }, { on := 13, ground := Ground.phase }, { on := 14, ground := Ground.phase }, { on := 15, ground := Ground.phase }, { on := 16, ground := Ground.phase }, { on := 17, ground := Ground.phase }, { on := 18, ground := Ground.phase }, { on := 19, ground := Ground.phase }, { on := 20, ground := Ground.phase }], guard := none }) (v := ?pcbv22) rfl (by kernel_rfl) (by kernel_rfl) (by kernel_rfl) (fun _ _ _ h => h) (Or.inl ⟨by rfl, ?pcbh22⟩) (by assumption) ?pcbr22
   case pcbh22 => ((intro w hSw; (try dsimp only at hSw); go_simp); try with_reducible rfl)
   try simp only [Act.put, List.setIfInBounds_toArray, List.set_cons_zero, List.set_cons_succ]
   refine wpAnyH_take (i := 23) (oi := { dst := some 58, op := Op.fieldAddr 32 (Operand.tmp 57) 0, type := 0, pos := "frag.go:54", after := #[{ on := 22, ground := Ground.data }, { on := 0, ground := Ground.phase }, { on := 1, ground := Ground.phase }, { on := 2, ground := Ground.phase }, { on := 3, ground := Ground.phase }, { on := 4, ground := Ground.phase }, { on := 5, ground := Ground.phase }, { on := 6, ground := Ground.phase }, { on := 7, ground := Ground.phase }, { on := 8, ground := Ground.phase }, { on := 9, ground := Ground.phase }, { on := 10, ground := Ground.phase }, { on := 11, ground := Ground.phase }, { on := 12, ground := Ground.phase }, { on := 13, ground := Ground.phase }, { on := 14, ground := Ground.phase }, { on := 15, ground := Ground.phase }, { on := 16, ground := Ground.phase }, { on := 17, ground := Ground.phase }, { on := 18, ground := Ground.phase }, { on := 19, ground := Ground.phase }, { on := 20, ground := Ground.phase }], guard := none }) (v := ?pcbv23) rfl (by kernel_rfl) (by kernel_rfl) (by kernel_rfl) (fun _ _ _ h => h) (Or.inl ⟨by rfl, ?pcbh23⟩) (by assumption) ?pcbr23
   case pcbh23 => ((intro w hSw; (try dsimp only at hSw); go_simp); try with_reducible rfl)
   try simp only [Act.put, List.setIfInBounds_toArray, List.set_cons_zero, List.set_cons_succ]
   refine wpAnyH_ready (rs := [24]) (by kernel_rfl) (by simp) ?_
   refine AllReadyH.cons (o := { dst := none, op := Op.store 28 (Operand.tmp 58) (Operand.tmp 55), type := 0, pos := "frag.go:54", after := #[{ on := 23, ground := Ground.data }, { on := 20, ground := Ground.data }, { on := 20, ground := Ground.chain }, { on := 0, ground := Ground.phase }, { on := 1, ground := Ground.phase }, { on := 2, ground := Ground.phase }, { on := 3, ground := Ground.phase }, { on := 4, ground := Ground.phase }, { on := 5, ground := Ground.phase }, { on := 6, ground := Ground.phase }, { on := 7, ground := Ground.phase }, { on := 8, ground := Ground.phase }, { on := 9, ground := Ground.phase }, { on := 10, ground := Ground.phase }, { on := 11, ground := Ground.phase }, { on := 12, ground := Ground.phase }, { on := 13, ground := Ground.phase }, { on := 14, ground := Ground.phase }, { on := 15, ground := Ground.phase }, { on := 16, ground := Ground.phase }, { on := 17, ground := Ground.phase }, { on := 18, ground := Ground.phase }, { on := 19, ground := Ground.phase }, { on := 20, ground := Ground.phase }], guard := none }) rfl (fun K hK => ?_) AllReadyH.nil
   go_simp; refine hK.out _ _ (HA8.out.set (by decide) _) (fun hHeld => ?_)
   clear hK K
   try simp only [Act.put, List.setIfInBounds_toArray, List.set_cons_zero, List.set_cons_succ]
   refine wpAnyH_done (by kernel_rfl) ?_ _
   go_wp2_with fail
   have hfin := H5.out.finPart ⟨name, file, line, ⟨none, 0, []⟩⟩ rfl (by rw [HNN.out]; exact HO8.out) (by rw [HVC.out]; exact HG8.out)
   go_meet
   exact ⟨rfl, _, hfin⟩
  case rest =>
   obtain ⟨rfl, v', h9, ht9⟩ := hcut
   have H9 := hid h9
   have HT9 := hid ht9
   obtain ⟨g9, c9, e9, hge9, hlt9, hcap9, hcm9⟩ := own_block h9.is.parts (by show 0 < (X.ps ++ [_]).length; simp)
   have e9 : v' = .slice (some ⟨g9, 0, none⟩) (X.ps ++ [(⟨name, file, line, ⟨none, 0, []⟩⟩ : PtR)]).length c9 := e9
   have hl9 : (X.ps ++ [(⟨name, file, line, ⟨none, 0, []⟩⟩ : PtR)]).length = n + 1 := by simp [HNN.out]
   rw [hl9] at e9
   subst e9
   obtain ⟨x0, -⟩ := h9.cells
   have x0 : wc.cell? ⟨m, 0, none⟩ = some (.slice (some ⟨g9, 0, none⟩) (n + 1) c9) := x0
   have hnI : (n : Int) < (n + 1 : Nat) := by omega
   unfold maxLen at hcm9
   clear h9 ht9 d0 d0L a5 a6 a8 ht5 hcap9
   go_wp2_with fail
   go_ret2
   refine ⟨{ X with pv := .slice (some ⟨g9, 0, none⟩) (n + 1) c9, ps := X.ps ++ [⟨name, file, line, ⟨none, 0, []⟩⟩] }, n, g9, c9, rfl, ?_, ?_, ?_, HT5.out.trans HT9.out, rfl, rfl, rfl, rfl, rfl, rfl, .inr ⟨rfl, HNN.out.symm, HI.out⟩⟩
   ·show Value.slice _ (n + 1) c9 = .slice _ (X.ps ++ [_]).length c9
    rw [hl9]
   ·show n < (X.ps ++ [_]).length
    rw [hl9]; omega
   ·have := H9.out
    rw [show X.ps.map PtR.name ++ [name] = (X.ps ++ [(⟨name, file, line, ⟨none, 0, []⟩⟩ : PtR)]).map PtR.name from by simp] at this
    exact this
theorem part_any (h : CIs W base m mb X file line name) (hn : X.ps.length ≤ 1000000000) :
  Calls Try.prog 37 #[.pointer (some ⟨m, 0, none⟩)] W (PartT W base m mb X file line name) := by
 cases e : idxO (X.ps.map PtR.name) name with
 | none => exact part_new h hn e
 | some i => exact part_old h hn e
end Go.Proofs.Ythlingholhjcnaa
namespace Go.Proofs.Ythlingholhjcnaa
open Go.RowKit
variable {W W' w w' : World} {base m mb : Nat} {X X' : FV} {file line : Int} {name : ByteArray} {nm : List ByteArray}
structure FP where
 ps : List Pt
 ms : List Mk
 gs : List Td
 fs : List Ft
def FV.pl (X : FV) : FP := ⟨X.ps.map PtR.pl, X.ms, X.gs, X.fs⟩
def FP.fault (S : FP) (file line er : Int) : FP := { S with fs := S.fs ++ [⟨file, line, er⟩] }
def FP.part (S : FP) (file line : Int) (name : ByteArray) : FP × Nat := match idxO (S.ps.map Pt.name) name with
 | some i => (S, i)
 | none => ({ S with ps := S.ps ++ [⟨name, file, line, []⟩] }, S.ps.length)
def addPc (x : Pc) (y : Pt) : Pt := { y with pieces := y.pieces ++ [x] }
def FP.put (S : FP) (file line : Int) (name : ByteArray) (x : Pc) (zero : Bool) : FP :=
 if !zero && (kindP name == 4) then S.fault file line 150
 else { (S.part file line name).1 with ps := (S.part file line name).1.ps.modify (S.part file line name).2 (addPc { x with file := file, line := line }) }
def pcsAt (S : FP) (i : Nat) : Nat := match S.ps[i]? with | some y => y.pieces.length | none => 0
def FP.mark (S : FP) (file line : Int) (name : ByteArray) (nm : ByteArray) (equ : Bool) (v : Vv) : FP :=
 if 255 < nm.size then S.fault file line 3
 else { (S.part file line name).1 with ms := S.ms ++ [⟨nm, file, line, ((S.part file line name).2 : Nat), (pcsAt (S.part file line name).1 (S.part file line name).2 : Nat), equ, v⟩] }
theorem names_pl (l : List PtR) : (l.map PtR.pl).map Pt.name = l.map PtR.name := by rw [List.map_map]; rfl
structure PartP (X X' : FV) (file line : Int) (name : ByteArray) (i : Nat) : Prop where
 ms : X'.ms = X.ms
 gs : X'.gs = X.gs
 fs : X'.fs = X.fs
 mv : X'.mv = X.mv
 gv : X'.gv = X.gv
 fv : X'.fv = X.fv
 ps : (X'.ps = X.ps ∧ idxO (X.ps.map PtR.name) name = some i) ∨ (X'.ps = X.ps ++ [⟨name, file, line, ⟨none, 0, []⟩⟩] ∧ i = X.ps.length ∧ idxO (X.ps.map PtR.name) name = none)
theorem PartP.plain {i : Nat} (h : PartP X X' file line name i) : X.pl.part file line name = (X'.pl, i) := by
 unfold FP.part FV.pl
 dsimp only
 rw [names_pl, h.ms, h.gs, h.fs]
 rcases h.ps with ⟨h1, h2⟩ | ⟨h1, h2, h3⟩
 ·rw [h2, h1]
 ·rw [h3, h1, h2]; simp [PtR.pl]
theorem PartP.mem {i j : Nat} (h : PartP X X' file line name i) {y : PtR} (hy : X'.ps[j]? = some y) : X.ps[j]? = some y ∨ y.pieces = ⟨none, 0, []⟩ := by
 rcases h.ps with ⟨h1, _⟩ | ⟨h1, _⟩
 ·rw [h1] at hy; exact .inl hy
 ·rw [h1] at hy
  rcases get_snoc hy with ⟨h2, _⟩ | ⟨_, rfl⟩
  ·exact .inl h2
  ·exact .inr rfl
theorem part_anyP (h : CIs W base m mb X file line name) (hn : X.ps.length ≤ 1000000000) :
  Calls Try.prog 37 #[.pointer (some ⟨m, 0, none⟩)] W fun e w' => ∃ (X' : FV) (i g c : Nat), e = .returned (.tuple #[.pointer (some ⟨g, i * 4, none⟩), .int .i64 (i : Nat)]) ∧ X'.pv = .slice (some ⟨g, 0, none⟩) X'.ps.length c ∧ i < X'.ps.length ∧ CIs w' base m mb X' file line name ∧ TrnP isPM base W w' ∧ PartP X X' file line name i := by
 refine (part_any h hn).mono ?_
 rintro e w' ⟨X', i, g, c, h1, h2, h3, h4, h5, q1, q2, q3, q4, q5, q6, q7⟩
 exact ⟨X', i, g, c, h1, h2, h3, h4, h5, ⟨q1, q2, q3, q4, q5, q6, q7⟩⟩
def FV.fp (X : FV) (b : Nat) : Prop := X.pv.ownBlock = some b ∨ X.mv.ownBlock = some b ∨ X.gv.ownBlock = some b ∨ X.fv.ownBlock = some b ∨ ∃ (j : Nat) (y : PtR), X.ps[j]? = some y ∧ y.pieces.val.ownBlock = some b
theorem FIs.but (h : FIs W base X) (hk : ∀ b, X.fp b → W'.heap[b]? = W.heap[b]?) (hl : Lies base isOB W W') : FIs W' base X :=
 ⟨own_blk h.parts fun g hg => hk g (.inl hg), fun i y hy => own_blk (h.pcs i y hy) fun g hg => hk g (.inr (.inr (.inr (.inr ⟨i, y, hy, hg⟩)))), h.apart, fun y hy x hx => (h.pok y hy x hx).lies hl,
  own_blk h.marks fun g hg => hk g (.inr (.inl hg)), own_blk h.globals fun g hg => hk g (.inr (.inr (.inl hg))), own_blk h.faults fun g hg => hk g (.inr (.inr (.inr (.inl hg))))⟩
theorem FIs.fp_tag (h : FIs W base X) {q : Nat} (hq : X.fp q) : ∃ x, own3 x ∧ tagAt W q = some x := by
 rcases hq with e | e | e | e | ⟨j, y, hy, e⟩
 ·exact ⟨_, .inl rfl, own_tag h.parts e⟩
 ·exact ⟨_, .inr (.inr (.inl rfl)), own_tag h.marks e⟩
 ·exact ⟨_, .inr (.inr (.inr (.inl rfl))), own_tag h.globals e⟩
 ·exact ⟨_, .inr (.inr (.inr (.inr rfl))), own_tag h.faults e⟩
 ·exact ⟨_, .inr (.inl rfl), own_tag (h.pcs j y hy) e⟩
theorem CIsN.but (h : CIsN W base m mb X nm file line name) (hk : ∀ b, (b = m ∨ b = mb ∨ X.fp b) → W'.heap[b]? = W.heap[b]?) (hl : Lies base isPT W W') : CIsN W' base m mb X nm file line name := by
 obtain ⟨am, ⟨es, c, e1, e2⟩, h2⟩ := h.mp
 exact ⟨(hk m (.inl rfl)).trans h.head, ⟨am, ⟨es, c, (hk mb (.inr (.inl rfl))).trans e1, e2⟩, h2⟩, h.is.but (fun b hb => hk b (.inr (.inr hb))) (hl.mono fun _ h => ob_pt h), h.ge⟩
theorem CIsN.box {X0 : FV} {W0 : World} (h : CIsN W base m mb X nm file line name) (h0 : FIs W0 base X0) {i : Nat} {name0 : ByteArray} (hp : PartP X0 X file line name0 i) {b x : Nat} (hb : W0.heap.size ≤ b) (ht : tagAt W b = some x) (hx : x = 64 + 1 ∨ x = 81 + 1) (hmk : x = 81 + 1 → X.mv.ownBlock ≠ some b) : ∀ q, (q = m ∨ q = mb ∨ X.fp q) → q ≠ b := by
 obtain ⟨am, hm, _⟩ := h.mp
 rintro q (rfl | rfl | hq) rfl
 ·exact tag_ne h.tagM ht (by rcases hx with rfl | rfl <;> decide) rfl
 ·exact tag_ne (map_tag hm) ht (by rcases hx with rfl | rfl <;> decide) rfl
 ·rcases hq with e | e | e | e | ⟨j, y, hy, e⟩
  ·exact tag_ne (own_tag h.is.parts e) ht (by rcases hx with rfl | rfl <;> decide) rfl
  ·rcases hx with rfl | rfl
   ·exact tag_ne (own_tag h.is.marks e) ht (by decide) rfl
   ·exact hmk rfl e
  ·exact tag_ne (own_tag h.is.globals e) ht (by rcases hx with rfl | rfl <;> decide) rfl
  ·exact tag_ne (own_tag h.is.faults e) ht (by rcases hx with rfl | rfl <;> decide) rfl
  ·rcases hp.mem hy with h1 | h1
   ·have := own_lt (h0.pcs j y h1) q e; omega
   ·rw [h1] at e; cases e
theorem CIsN.finPiece (h : CIsN W base m mb X nm file line name) {i : Nat} {y : PtR} (hi : X.ps[i]? = some y) {g c : Nat} (hpv : X.pv = .slice (some ⟨g, 0, none⟩) X.ps.length c) {o : Obj} {w8 : World} {p' : Option Addr} {c' : Nat} (x : PcR)
  (ho : w8.ownsRow base 64 11 (.slice p' (y.pieces.l.length + 1) c') (y.pieces.l.length + 1) (y.pieces.l.flatMap PcR.cells ++ x.cells)) (hg : (W.alloc o).drew.grownBy w8 y.pieces.val.ownBlock) (hs : Stayed (W.alloc o).drew y.pieces.val (.slice p' (y.pieces.l.length + 1) c')) (hx : PcOk W base x) :
  CIsN (w8.setCell ⟨g, i * 4 + 3, none⟩ (.slice p' (y.pieces.l.length + 1) c')) base m mb { X with ps := X.ps.set i { y with pieces := ⟨p', c', y.pieces.l ++ [x]⟩ } } nm file line name ∧ Trn base W (w8.setCell ⟨g, i * 4 + 3, none⟩ (.slice p' (y.pieces.l.length + 1) c')) := by
 have hA := h.below (alloc_below W o)
 have hg := grown_undrew hg
 have hyo := hA.is.pcs i y hi
 have hr : ∀ g, y.pieces.val.ownBlock = some g → tagAt (W.alloc o) g = some (64 + 1) ∧ base ≤ g := fun g hgg => ⟨own_tag hyo hgg, own_ge hyo g hgg⟩
 have hl : Lies base (fun y => y ≠ 64 + 1) (W.alloc o) w8 := Lies.grown hg hr (fun hn => hn rfl) hA.hz
 have ht : Trn base W w8 := (TrnP.below (alloc_below W o) h.hz).trans (TrnP.grown hg hr (by unfold isPT; decide) hA.hz)
 have hF := hA.is.addPiece hA.hz hi hpv x ho hg hs (hx.lies (Lies.below _ (alloc_below W o) h.hz))
 have htg : tagAt w8 g = some (50 + 1) := by
  have := own_tag hA.is.parts (g := g) (by rw [hpv]; rfl)
  exact tag_blk this (hl.tag g _ this (by decide))
 have hge : base ≤ g := own_ge hA.is.parts g (by rw [hpv]; rfl)
 have hz8 : base ≤ w8.heap.size := Nat.le_trans hA.hz hl.size
 obtain ⟨am, ⟨es, c1, e1, e2⟩, h2⟩ := hA.mp
 have hm8 : w8.heap[m]? = some (.cells (headC X mb file line name) 78 (0, 0)) := (hl.tag m _ hA.tagM (by decide)).trans hA.head
 have hmb8 : w8.heap[mb]? = some (.map es c1) := (hl.tag mb 0 (by unfold tagAt; rw [e1]; rfl) (by decide)).trans e1
 refine ⟨⟨(heap_setCell_other _ _ _ _ ?_).trans hm8, ⟨am, ⟨es, c1, (heap_setCell_other _ _ _ _ ?_).trans hmb8, e2⟩, h2⟩, hF, h.ge⟩, ht.trans (TrnP.grown (grown_set _ _ _) (fun b hb => by cases hb; exact ⟨htg, hge⟩) (by unfold isPT; decide) hz8)⟩
 ·exact fun e => tag_ne (tag_row hm8) htg (by decide) e
 ·exact fun e => tag_ne (show tagAt w8 mb = some 0 by unfold tagAt; rw [hmb8]; rfl) htg (by decide) e
theorem modify_set {α : Type} (f : α → α) (l : List α) (i : Nat) (y : α) (h : l[i]? = some y) : l.modify i f = l.set i (f y) := by
 apply List.ext_getElem?
 intro j
 rw [List.getElem?_modify, List.getElem?_set]
 by_cases e : i = j
 ·subst e; obtain ⟨hl, he⟩ := List.getElem?_eq_some_iff.1 h; simp [hl, he]
 ·simp [e]
theorem map_setPc {X : FV} {i : Nat} {y : PtR} (hi : X.ps[i]? = some y) (p' : Option Addr) (c' : Nat) (x : PcR) :
  (X.ps.set i { y with pieces := ⟨p', c', y.pieces.l ++ [x]⟩ }).map PtR.pl = (X.ps.map PtR.pl).modify i (addPc x.pl) := by
 rw [modify_set _ _ i y.pl (by rw [List.getElem?_map, hi]; rfl), List.map_set]
 congr 1
 simp [PtR.pl, addPc]
end Go.Proofs.Ythlingholhjcnaa
namespace Go.Proofs.Ythlingholhjcnaa
open Go.RowKit
variable {W W' w w' : World} {base m mb : Nat} {X X' : FV} {file line : Int} {name : ByteArray} {nm : List ByteArray}
structure Sm (X : FV) (n : Nat) : Prop where
 ps : X.ps.length ≤ n
 ms : X.ms.length ≤ n
 gs : X.gs.length ≤ n
 fs : X.fs.length ≤ n
 pcs : ∀ y ∈ X.ps, y.pieces.l.length ≤ n
def BxP (bx : Nat) (x : PcR) (w' : World) : Prop := w'.heap[bx]? = some (.cells x.cells.toArray 64 (0, 0))
theorem box_cells {bx : Nat} {x : PcR} (h : BxP bx x W) : W.cell? ⟨bx, 0, none⟩ = some (.int .i64 x.kind) ∧ W.cell? ⟨bx, 1, none⟩ = some (.int .i64 x.file) ∧ W.cell? ⟨bx, 2, none⟩ = some (.int .i64 x.line) ∧ W.cell? ⟨bx, 3, none⟩ = some (.string x.l.name) ∧ W.cell? ⟨bx, 4, none⟩ = some x.l.opers.val ∧ W.cell? ⟨bx, 5, none⟩ = some (.int .i64 x.v.add) ∧ W.cell? ⟨bx, 6, none⟩ = some (.string x.v.plus) ∧ W.cell? ⟨bx, 7, none⟩ = some (.string x.v.minus) ∧ W.cell? ⟨bx, 8, none⟩ = some (.int .i64 x.size) ∧ W.cell? ⟨bx, 9, none⟩ = some x.b.val ∧ W.cell? ⟨bx, 10, none⟩ = some (.int .i64 x.align) :=
 ⟨cell_of_row _ _ 0 _ _ _ h, cell_of_row _ _ 1 _ _ _ h, cell_of_row _ _ 2 _ _ _ h, cell_of_row _ _ 3 _ _ _ h, cell_of_row _ _ 4 _ _ _ h, cell_of_row _ _ 5 _ _ _ h, cell_of_row _ _ 6 _ _ _ h, cell_of_row _ _ 7 _ _ _ h, cell_of_row _ _ 8 _ _ _ h, cell_of_row _ _ 9 _ _ _ h, cell_of_row _ _ 10 _ _ _ h⟩
theorem names_set {l : List PtR} {i : Nat} {y : PtR} (hi : l[i]? = some y) (s : Sl PcR) : (l.set i { y with pieces := s }).map PtR.name = l.map PtR.name := by
 rw [List.map_set]
 apply List.ext_getElem?
 intro j
 rw [List.getElem?_set]
 by_cases e : i = j
 ·subst e; obtain ⟨hl, he⟩ := List.getElem?_eq_some_iff.1 hi; simp [hl, he]
 ·simp [e]
theorem PartP.pcs {i n : Nat} (h : PartP X X' file line name i) (hs : Sm X n) : ∀ y ∈ X'.ps, y.pieces.l.length ≤ n := fun y hy => by
 obtain ⟨j, hj⟩ := List.getElem?_of_mem hy
 rcases h.mem hj with h1 | h1
 ·exact hs.pcs y (List.mem_of_getElem? h1)
 ·rw [h1]; exact Nat.zero_le _
theorem PartP.sm {i n : Nat} (h : PartP X X' file line name i) (hs : Sm X n) : Sm X' (n + 1) := by
 refine ⟨?_, by rw [h.ms]; exact Nat.le_succ_of_le hs.ms, by rw [h.gs]; exact Nat.le_succ_of_le hs.gs, by rw [h.fs]; exact Nat.le_succ_of_le hs.fs, fun y hy => ?_⟩
 ·have := hs.ps
  rcases h.ps with ⟨h1, _⟩ | ⟨h1, _⟩ <;> rw [h1]
  ·omega
  ·rw [List.length_append]; simp; omega
 ·obtain ⟨j, hj⟩ := List.getElem?_of_mem hy
  rcases h.mem hj with h1 | h1
  ·exact Nat.le_succ_of_le (hs.pcs y (List.mem_of_getElem? h1))
  ·rw [h1]; exact Nat.zero_le _
def PutT (W : World) (base m mb : Nat) (X : FV) (file line : Int) (name : ByteArray) (S : FP) (n : Nat) (e : Ending) (w' : World) : Prop :=
 e = .returned (.tuple #[]) ∧ Trn base W w' ∧ ∃ X', CIs w' base m mb X' file line name ∧ X'.pl = S ∧ Sm X' n
set_option maxRecDepth 20000 in
set_option maxHeartbeats 4000000 in
theorem put_any (h : CIs W base m mb X file line name) {n : Nat} (hn : Sm X n) (hn2 : n ≤ 4000000) (x : PcR) (hx : PcOk W base x) (zero : Bool) :
  Calls Try.prog 38 #[.pointer (some ⟨m, 0, none⟩), .agg x.cells.toArray, .bool zero] W (PutT W base m mb X file line name (X.pl.put file line name x.pl zero) (n + 1)) := by
 have HC := hid h
 have HN := hid hn
 have HX := hid hx
 have HKI := hid (fun w1 : World => kind_any name w1)
 obtain ⟨c0, c1, c2, c3, c4, hfl⟩ := h.cells
 have HFL := hid hfl
 have hb0 : W.heap.size = W.heap.size := rfl
 obtain ⟨W1, hW1⟩ : ∃ W1, W1 = W.alloc (.cells x.cells.toArray 64) := ⟨_, rfl⟩
 have hb1 : Below W.heap.size W W1 := by rw [hW1]; exact alloc_below _ _
 have hx1 : W1.heap[W.heap.size]? = some (.cells x.cells.toArray 64 (0, 0)) := by rw [hW1]; exact heap_alloc_new _ _
 have HB1 := hid hb1
 have HX1 := hid hx1
 have HW1 := hid hW1
 have h1 := h.below hb1
 have H1 := hid h1
 have c7 := h1.cells.2.2.2.2.2.n
 clear h hn hx c0 c1 c2 c3 c4 hfl hb0 hb1 hx1 h1 hW1
 generalize hcc : (!zero && (kindP name == 4)) = cc at *
 have HCC := hid hcc
 clear hcc
 go_enter Try.func38, Try.ntmps38
 go_upto_region 1 with (fail)
 rw [← HW1.out]
 go_cut [17] (fun b wx => b = .bool cc ∧ Below W1.heap.size W1 wx)
 case first =>
  cases zero with
  | true =>
   go_wp2_with fail
   go_meet
   exact ⟨by rw [← HCC.out]; rfl, Below.refl _ _⟩
  | false =>
   go_wp2_with (go_at_call 56; (with_reducible refine (HKI.out _).mono ?_); rintro e w2 ⟨rfl, hb2⟩; have HB2 := hid hb2; clear hb2)
   all_goals go_meet
   all_goals exact ⟨by rw [← HCC.out]; rfl, HB2.out⟩
 case rest =>
  obtain ⟨rfl, hbc⟩ := hcut
  have HBC := hid hbc
  have h2 := H1.out.below hbc
  have H2 := hid h2
  cases cc with
  | true =>
   have HF := hid (fails_any h2 (Nat.le_trans HN.out.fs (by omega)) 150)
   clear h2 hbc
   go_wp2_with (go_at_call 36; (with_reducible refine HF.out.mono ?_); rintro e w3 ⟨rfl, ⟨v', h3⟩, ht3⟩; have H3 := hid h3; have HT3 := hid ht3; clear h3 ht3)
   go_end0
   refine ⟨rfl, ((TrnP.below HB1.out HC.out.hz).trans (TrnP.below HBC.out H1.out.hz)).trans HT3.out, _, H3.out, ?_, ?_⟩
   ·unfold FP.put; rw [HCC.out]; rfl
   ·have q := HN.out
    exact ⟨Nat.le_succ_of_le q.ps, Nat.le_succ_of_le q.ms, Nat.le_succ_of_le q.gs, by show (X.fs ++ [_]).length ≤ _; rw [List.length_append]; have := q.fs; simp; omega, fun y hy => Nat.le_succ_of_le (q.pcs y hy)⟩
  | false =>
   have HP := hid (part_anyP h2 (Nat.le_trans HN.out.ps (by omega)))
   clear h2 hbc
   go_upto_region 4 with (go_at_call 37; (with_reducible refine HP.out.mono ?_); rintro e w3 ⟨X3, i, g, c, rfl, hpv3, hi3, h3, ht3, hp3⟩)
   have htb : tagAt wc W.heap.size = some (64 + 1) := tag_blk (tag_row HX1.out) (HBC.out.block _ (tag_lt (tag_row HX1.out)))
   have hbx3 : w3.heap[W.heap.size]? = some (.cells x.cells.toArray 64 (0, 0)) := (ht3.2.tag _ _ htb (.inr (.inl rfl))).trans ((HBC.out.block _ (tag_lt (tag_row HX1.out))).trans HX1.out)
   have hne : ∀ q, (q = m ∨ q = mb ∨ X3.fp q) → q ≠ W.heap.size := h3.box HC.out.is hp3 (Nat.le_refl _) (tag_row hbx3) (.inl rfl) (fun e => absurd e (by decide))
   have HBB : Hid (base ≤ W.heap.size) := HC.out.hz
   have HTW : Hid (Trn base W w3) := ((TrnP.below HB1.out HC.out.hz).trans (TrnP.below HBC.out H1.out.hz)).trans ht3.pt
   generalize W.heap.size = bx at *
   have hfl3 := h3.cells.2.2.2.2.2
   have H3 := hid h3
   have HT3 := hid ht3
   have HP3 := hid hp3
   have HPV := hid hpv3
   have HI3 := hid hi3
   have HNE := hid hne
   have hmx : m ≠ bx := hne m (.inl rfl)
   have HH0 : Hid (FL m 5 file line name w3.drew) := hfl3.drew
   have HBX := hid hbx3
   have zb1 := cell_of_row _ _ 1 _ _ _ hbx3
   have zb2 := cell_of_row _ _ 2 _ _ _ hbx3
   have zf1 := frozen_of_row _ _ 1 _ _ hbx3
   have zf2 := frozen_of_row _ _ 2 _ _ hbx3
   have a5 : ∀ w' : World, FL m 5 file line name w' → w'.cell? ⟨m, 5, none⟩ = some (.int .i64 file) := fun _ h => h.f
   have a6 : ∀ w' : World, FL m 5 file line name w' → w'.cell? ⟨m, 6, none⟩ = some (.int .i64 line) := fun _ h => h.l
   have HFS : Hid (∀ (w' : World) (k : Nat) (v : Value), FL m 5 file line name w' → FL m 5 file line name (w'.setCell ⟨bx, k, none⟩ v)) := fun w' k v hw => hw.blk (heap_setCell_other _ _ _ _ hmx)
   clear h3 ht3 hp3 hpv3 hi3 hne hfl3 htb hbx3
   go_cut [6] (fun p wx => p = .pointer (some ⟨g, i * 4, none⟩) ∧ wx = ((w3.setCell ⟨bx, 1, none⟩ (.int .i64 file)).setCell ⟨bx, 2, none⟩ (.int .i64 line)).drew)
   case first =>
    refine wp_region_held_drew (S := FL m 5 file line name) (by kernel_rfl) HH0.out (fun hHeld => ?_)
    refine wpAnyH_take (i := 0) (oi := { dst := some 25, op := Op.move (Operand.tmp 0), type := 75, pos := "frag.go:77", after := #[], guard := none }) (v := ?pav0) rfl (by kernel_rfl) (by kernel_rfl) (by kernel_rfl) (fun _ _ _ h => h) (Or.inl ⟨by rfl, ?pah0⟩) (by assumption) ?par0
    case pah0 => ((intro w hSw; (try dsimp only at hSw); go_simp); try with_reducible rfl)
    try simp only [Act.put, List.setIfInBounds_toArray, List.set_cons_zero, List.set_cons_succ]
    refine wpAnyH_take (i := 1) (oi := { dst := some 26, op := Op.nilCheck (Operand.tmp 25), type := 0, pos := "frag.go:77", after := #[{ on := 0, ground := Ground.data }], guard := none }) (v := ?pav1) rfl (by kernel_rfl) (by kernel_rfl) (by kernel_rfl) (fun _ _ _ h => h) (Or.inl ⟨by rfl, ?pah1⟩) (by assumption) ?par1
    case pah1 => ((intro w hSw; (try dsimp only at hSw); go_simp); try with_reducible rfl)
    try simp only [Act.put, List.setIfInBounds_toArray, List.set_cons_zero, List.set_cons_succ]
    refine wpAnyH_take (i := 2) (oi := { dst := some 27, op := Op.fieldAddr 78 (Operand.tmp 26) 3, type := 0, pos := "frag.go:77", after := #[{ on := 1, ground := Ground.data }], guard := none }) (v := ?pav2) rfl (by kernel_rfl) (by kernel_rfl) (by kernel_rfl) (fun _ _ _ h => h) (Or.inl ⟨by rfl, ?pah2⟩) (by assumption) ?par2
    case pah2 => ((intro w hSw; (try dsimp only at hSw); go_simp); try with_reducible rfl)
    try simp only [Act.put, List.setIfInBounds_toArray, List.set_cons_zero, List.set_cons_succ]
    refine wpAnyH_take (i := 3) (oi := { dst := some 28, op := Op.load 3 (Operand.tmp 27), type := 3, pos := "frag.go:77", after := #[{ on := 2, ground := Ground.data }], guard := none }) (v := ?pav3) rfl (by kernel_rfl) (by kernel_rfl) (by kernel_rfl) (fun _ _ _ h => h) (Or.inl ⟨by rfl, ?pah3⟩) (by assumption) ?par3
    case pah3 => ((intro w hSw; (try dsimp only at hSw); go_simp); try with_reducible rfl)
    try simp only [Act.put, List.setIfInBounds_toArray, List.set_cons_zero, List.set_cons_succ]
    refine wpAnyH_take (i := 4) (oi := { dst := some 29, op := Op.move (Operand.tmp 0), type := 75, pos := "frag.go:77", after := #[{ on := 9, ground := Ground.gcOnly Departure.lateStores }], guard := none }) (v := ?pav4) rfl (by kernel_rfl) (by kernel_rfl) (by kernel_rfl) (fun _ _ _ h => h) (Or.inl ⟨by rfl, ?pah4⟩) (by assumption) ?par4
    case pah4 => ((intro w hSw; (try dsimp only at hSw); go_simp); try with_reducible rfl)
    try simp only [Act.put, List.setIfInBounds_toArray, List.set_cons_zero, List.set_cons_succ]
    refine wpAnyH_take (i := 5) (oi := { dst := some 30, op := Op.nilCheck (Operand.tmp 29), type := 0, pos := "frag.go:77", after := #[{ on := 4, ground := Ground.data }, { on := 9, ground := Ground.gcOnly Departure.lateStores }], guard := none }) (v := ?pav5) rfl (by kernel_rfl) (by kernel_rfl) (by kernel_rfl) (fun _ _ _ h => h) (Or.inl ⟨by rfl, ?pah5⟩) (by assumption) ?par5
    case pah5 => ((intro w hSw; (try dsimp only at hSw); go_simp); try with_reducible rfl)
    try simp only [Act.put, List.setIfInBounds_toArray, List.set_cons_zero, List.set_cons_succ]
    refine wpAnyH_take (i := 6) (oi := { dst := some 31, op := Op.fieldAddr 78 (Operand.tmp 30) 4, type := 0, pos := "frag.go:77", after := #[{ on := 5, ground := Ground.data }, { on := 9, ground := Ground.gcOnly Departure.lateStores }], guard := none }) (v := ?pav6) rfl (by kernel_rfl) (by kernel_rfl) (by kernel_rfl) (fun _ _ _ h => h) (Or.inl ⟨by rfl, ?pah6⟩) (by assumption) ?par6
    case pah6 => ((intro w hSw; (try dsimp only at hSw); go_simp); try with_reducible rfl)
    try simp only [Act.put, List.setIfInBounds_toArray, List.set_cons_zero, List.set_cons_succ]
    refine wpAnyH_take (i := 7) (oi := { dst := some 32, op := Op.load 3 (Operand.tmp 31), type := 3, pos := "frag.go:77", after := #[{ on := 6, ground := Ground.data }, { on := 9, ground := Ground.gcOnly Departure.lateStores }], guard := none }) (v := ?pav7) rfl (by kernel_rfl) (by kernel_rfl) (by kernel_rfl) (fun _ _ _ h => h) (Or.inl ⟨by rfl, ?pah7⟩) (by assumption) ?par7
    case pah7 => ((intro w hSw; (try dsimp only at hSw); go_simp); try with_reducible rfl)
    try simp only [Act.put, List.setIfInBounds_toArray, List.set_cons_zero, List.set_cons_succ]
    refine wpAnyH_take (i := 8) (oi := { dst := some 33, op := Op.fieldAddr 64 (Operand.tmp 4) 1, type := 0, pos := "frag.go:77", after := #[{ on := 0, ground := Ground.phase }, { on := 1, ground := Ground.phase }, { on := 2, ground := Ground.phase }, { on := 3, ground := Ground.phase }, { on := 4, ground := Ground.textOnly Departure.lateStores }, { on := 5, ground := Ground.textOnly Departure.lateStores }, { on := 6, ground := Ground.textOnly Departure.lateStores }, { on := 7, ground := Ground.textOnly Departure.lateStores }], guard := none }) (v := ?pav8) rfl (by kernel_rfl) (by kernel_rfl) (by kernel_rfl) (fun _ _ _ h => h) (Or.inl ⟨by rfl, ?pah8⟩) (by assumption) ?par8
    case pah8 => ((intro w hSw; (try dsimp only at hSw); go_simp); try with_reducible rfl)
    try simp only [Act.put, List.setIfInBounds_toArray, List.set_cons_zero, List.set_cons_succ]
    refine wpAnyH_ready (rs := [9]) (by kernel_rfl) (by simp) ?_
    refine AllReadyH.cons (o := { dst := none, op := Op.store 3 (Operand.tmp 33) (Operand.tmp 28), type := 0, pos := "frag.go:77", after := #[{ on := 8, ground := Ground.data }, { on := 3, ground := Ground.data }, { on := 0, ground := Ground.phase }, { on := 1, ground := Ground.phase }, { on := 2, ground := Ground.phase }, { on := 3, ground := Ground.phase }, { on := 4, ground := Ground.textOnly Departure.lateStores }, { on := 5, ground := Ground.textOnly Departure.lateStores }, { on := 6, ground := Ground.textOnly Departure.lateStores }, { on := 7, ground := Ground.textOnly Departure.lateStores }], guard := none }) rfl (fun K hK => ?_) AllReadyH.nil
    go_simp; refine hK.out _ _ (HFS.out _ _ _ HH0.out) (fun hHeld => ?_)
    clear hK K
    try simp only [Act.put, List.setIfInBounds_toArray, List.set_cons_zero, List.set_cons_succ]
    refine wpAnyH_take (i := 10) (oi := { dst := some 34, op := Op.fieldAddr 64 (Operand.tmp 4) 2, type := 0, pos := "frag.go:77", after := #[{ on := 0, ground := Ground.phase }, { on := 1, ground := Ground.phase }, { on := 2, ground := Ground.phase }, { on := 3, ground := Ground.phase }, { on := 4, ground := Ground.phase }, { on := 5, ground := Ground.phase }, { on := 6, ground := Ground.phase }, { on := 7, ground := Ground.phase }, { on := 8, ground := Ground.phase }, { on := 9, ground := Ground.phase }], guard := none }) (v := ?pav10) rfl (by kernel_rfl) (by kernel_rfl) (by kernel_rfl) (fun _ _ _ h => h) (Or.inl ⟨by rfl, ?pah10⟩) (by assumption) ?par10
    case pah10 => ((intro w hSw; (try dsimp only at hSw); go_simp); try with_reducible rfl)
    try simp only [Act.put, List.setIfInBounds_toArray, List.set_cons_zero, List.set_cons_succ]
    refine wpAnyH_ready (rs := [11]) (by kernel_rfl) (by simp) ?_
    refine AllReadyH.cons (o := { dst := none, op := Op.store 3 (Operand.tmp 34) (Operand.tmp 32), type := 0, pos := "frag.go:77", after := #[{ on := 10, ground := Ground.data }, { on := 7, ground := Ground.data }, { on := 9, ground := Ground.chain }, { on := 0, ground := Ground.phase }, { on := 1, ground := Ground.phase }, { on := 2, ground := Ground.phase }, { on := 3, ground := Ground.phase }, { on := 4, ground := Ground.phase }, { on := 5, ground := Ground.phase }, { on := 6, ground := Ground.phase }, { on := 7, ground := Ground.phase }, { on := 8, ground := Ground.phase }, { on := 9, ground := Ground.phase }], guard := none }) rfl (fun K hK => ?_) AllReadyH.nil
    go_simp; refine hK.out _ _ (HFS.out _ _ _ (HFS.out _ _ _ HH0.out)) (fun hHeld => ?_)
    clear hK K
    try simp only [Act.put, List.setIfInBounds_toArray, List.set_cons_zero, List.set_cons_succ]
    refine wpAnyH_done (by kernel_rfl) ?_ _
    go_wp2_with fail
    go_meet
    exact ⟨rfl, rfl⟩
   case rest =>
    obtain ⟨rfl, hwc⟩ := hcut
    rw [hwc]
    clear hwc zb1 zb2 zf1 zf2 a5 a6
    go_upto_region 5 with (fail)
    obtain ⟨W4, hW4⟩ : ∃ W4, W4 = ((w3.setCell ⟨bx, 1, none⟩ (.int .i64 file)).setCell ⟨bx, 2, none⟩ (.int .i64 line)).drew := ⟨_, rfl⟩
    rw [← hW4]
    obtain ⟨x', hx'⟩ : ∃ x' : PcR, x' = { x with file := file, line := line } := ⟨_, rfl⟩
    have hb4 : W4.heap[bx]? = some (.cells x'.cells.toArray 64 (0, 0)) := by
     rw [hW4, hx']
     exact heap_setCell_same _ _ 2 _ _ _ (heap_setCell_same _ _ 1 _ _ _ HBX.out)
    have ho4 : ∀ q, q ≠ bx → W4.heap[q]? = w3.heap[q]? := fun q hq => by
     rw [hW4]; exact (heap_setCell_other _ _ _ _ hq).trans (heap_setCell_other _ _ _ _ hq)
    have hbase : base ≤ bx := HBB.out
    have hg4 : w3.grownBy W4 (some bx) := by
     rw [hW4]; exact ⟨rfl, rfl, rfl, by show _ ≤ ((w3.setCell _ _).setCell _ _).heap.size; simp, fun k _ hk => (heap_setCell_other _ _ _ _ (fun e => hk (by rw [e]))).trans (heap_setCell_other _ _ _ _ (fun e => hk (by rw [e])))⟩
    have ht4 : Trn base w3 W4 := TrnP.grown hg4 (fun q e => by cases e; exact ⟨tag_row HBX.out, hbase⟩) (by unfold isPT; decide) H3.out.hz
    have h4 : CIs W4 base m mb X3 file line name := H3.out.but (fun q hq => ho4 q (HNE.out q hq)) ht4.2
    have HTR : Hid (Trn base W W4) := HTW.out.trans ht4
    have HX4 : Hid (PcOk W4 base x') := by have := HX.out.trn HTR.out; rw [hx']; exact ⟨this.op, this.opl, this.b, this.bl⟩
    have HPL : Hid (x'.pl = { x.pl with file := file, line := line }) := by unfold Hid; rw [hx']; rfl
    obtain ⟨y, hy⟩ : ∃ y, X3.ps[i]? = some y := ⟨_, List.getElem?_eq_getElem HI3.out⟩
    have hyo := h4.is.pcs i y hy
    have hyl : y.pieces.l.length ≤ n := HP3.out.pcs HN.out y (List.mem_of_getElem? hy)
    have hpar := h4.is.parts
    rw [HPV.out] at hpar
    obtain ⟨pr, cr, er, hrow⟩ := own_shape hpar
    cases er
    have d3 := (ptr_cells hrow i HI3.out).2.2.2
    have hge : X3.ps[i]'HI3.out = y := (List.getElem?_eq_some_iff.1 hy).2
    rw [hge, Nat.zero_add] at d3
    have hlt5 : i * 4 + 3 < (X3.ps.flatMap PtR.cells).length := by rw [flat_len PtR.cells 4 (fun _ => rfl)]; have := HI3.out; omega
    have zf3 := (own_cell hpar (i * 4 + 3) hlt5).2
    have hgl : g < W4.heap.size := own_lt hpar g rfl
    have hgb : g ≠ bx := HNE.out g (.inr (.inr (.inl (by rw [HPV.out]; rfl))))
    have hyb : ∀ q, y.pieces.val.ownBlock = some q → q ≠ bx ∧ q ≠ g := fun q hq => ⟨HNE.out q (.inr (.inr (.inr (.inr (.inr (.inr ⟨i, y, hy, hq⟩)))))), fun e => tag_ne (own_tag hyo hq) (own_tag hpar (g := g) rfl) (by decide) e⟩
    obtain ⟨s, hs⟩ : ∃ s, s = y.pieces := ⟨_, rfl⟩
    have HS := hid hs
    rw [← hs] at hyo hyl d3 hyb
    obtain ⟨yp, yc, yl⟩ := s
    have d3 : W4.cell? ⟨g, i * 4 + 3, none⟩ = some (.slice yp yl.length yc) := d3
    have HY7 : Hid (W4.ownsRow base 64 11 (.slice yp yl.length yc) yl.length (yl.flatMap PcR.cells)) := hyo
    have hyl : yl.length ≤ n := hyl
    have H4 := hid h4
    have HB4 := hid hb4
    have HYI := hid hy
    have hz4 := h4.hz
    have d3L : ∀ o : Obj, (W4.alloc o).cell? ⟨g, i * 4 + 3, none⟩ = some (.slice yp yl.length yc) := fun o => (World.cell?_of_block (a := ⟨g, i * 4 + 3, none⟩) (Below.heap_alloc W4 o g hgl)).trans d3
    have hbl : bx < W4.heap.size := (Array.getElem?_eq_some_iff.1 hb4).1
    have HSL : Hid (∀ o : Obj, BxP bx x' (W4.alloc o).drew) := fun o => (Below.heap_alloc W4 o bx hbl).trans HB4.out
    have HH4 : Hid (BxP bx x' W4.drew) := hb4
    have HK8 : Hid (∀ (o : Obj) (w8 : World), (W4.alloc o).drew.grownBy w8 (Value.slice yp yl.length yc).ownBlock → BxP bx x' w8 ∧ w8.cell? ⟨g, i * 4 + 3, none⟩ = some (.slice yp yl.length yc) ∧ w8.frozen? ⟨g, i * 4 + 3, none⟩ = false) := fun o w8 hg => by
     have hg2 := grown_undrew hg
     have e1 : w8.heap[bx]? = W4.heap[bx]? := (hg2.block bx (by simp; omega) (fun e => (hyb bx e.symm).1 rfl)).trans (Below.heap_alloc W4 o bx hbl)
     have e2 : w8.heap[g]? = W4.heap[g]? := (hg2.block g (by simp; omega) (fun e => (hyb g e.symm).2 rfl)).trans (Below.heap_alloc W4 o g hgl)
     exact ⟨e1.trans HB4.out, (World.cell?_of_block (a := ⟨g, i * 4 + 3, none⟩) e2).trans d3, (World.frozen?_of_block (a := ⟨g, i * 4 + 3, none⟩) e2).trans zf3⟩
    have HBS : Hid (∀ (w' : World) (v : Value), BxP bx x' w' → BxP bx x' (w'.setCell ⟨g, i * 4 + 3, none⟩ v)) := fun w' v hw => (heap_setCell_other _ _ _ _ (Ne.symm hgb)).trans hw
    have HFIN : Hid (∀ (o : Obj) (w8 : World) (p8 : Option Addr) (c8 : Nat), w8.ownsRow base 64 11 (.slice p8 (yl.length + 1) c8) (yl.length + 1) (yl.flatMap PcR.cells ++ x'.cells) → (W4.alloc o).drew.grownBy w8 (Value.slice yp yl.length yc).ownBlock → Stayed (W4.alloc o).drew (.slice yp yl.length yc) (.slice p8 (yl.length + 1) c8) →
      PutT W base m mb X file line name (X.pl.put file line name x.pl zero) (n + 1) (.returned (.tuple #[])) (w8.setCell ⟨g, i * 4 + 3, none⟩ (.slice p8 (yl.length + 1) c8))) := fun o w8 p8 c8 ho8 hg8 hs8 => by
     have hys : y.pieces = ⟨yp, yc, yl⟩ := HS.out.symm
     have hfin := H4.out.finPiece HYI.out HPV.out (p' := p8) (c' := c8) x' (by rw [hys]; exact ho8) (by rw [hys]; exact hg8) (by rw [hys]; exact hs8) HX4.out
     rw [hys] at hfin
     dsimp only at hfin
     refine ⟨rfl, HTR.out.trans hfin.2, { X3 with ps := X3.ps.set i { y with pieces := ⟨p8, c8, yl ++ [x']⟩ } }, ?_, ?_, ?_⟩
     ·have := hfin.1
      rw [← names_set HYI.out ⟨p8, c8, yl ++ [x']⟩] at this
      exact this
     ·unfold FP.put
      rw [HCC.out, if_neg (by decide), HP3.out.plain]
      have h5 := map_setPc HYI.out p8 c8 x'
      rw [hys, HPL.out] at h5
      show (⟨(X3.ps.set i _).map PtR.pl, X3.ms, X3.gs, X3.fs⟩ : FP) = _
      dsimp only at h5
      rw [h5]
      rfl
     ·have hsm := HP3.out.sm HN.out
      refine ⟨by show (X3.ps.set i _).length ≤ _; rw [List.length_set]; exact hsm.ps, hsm.ms, hsm.gs, hsm.fs, fun z hz => ?_⟩
      have hz : z ∈ X3.ps.set i { y with pieces := ⟨p8, c8, yl ++ [x']⟩ } := hz
      rcases List.mem_or_eq_of_mem_set hz with h6 | h6
      ·exact hsm.pcs z h6
      ·rw [h6]
       show (yl ++ [x']).length ≤ n + 1
       rw [List.length_append]; simp; omega
    clear h4 hb4 hy hyo hpar hrow ho4 hg4 ht4 hge hlt5 hW4 hx' hyb hs
    have aks := fun (w' : World) (h : BxP bx x' w') => box_cells h
    have k0 : ∀ w' : World, BxP bx x' w' → w'.cell? ⟨bx, 0, none⟩ = some (.int .i64 x'.kind) := fun w' h => (aks w' h).1
    have k1 : ∀ w' : World, BxP bx x' w' → w'.cell? ⟨bx, 1, none⟩ = some (.int .i64 x'.file) := fun w' h => (aks w' h).2.1
    have k2 : ∀ w' : World, BxP bx x' w' → w'.cell? ⟨bx, 2, none⟩ = some (.int .i64 x'.line) := fun w' h => (aks w' h).2.2.1
    have k3 : ∀ w' : World, BxP bx x' w' → w'.cell? ⟨bx, 3, none⟩ = some (.string x'.l.name) := fun w' h => (aks w' h).2.2.2.1
    have k4 : ∀ w' : World, BxP bx x' w' → w'.cell? ⟨bx, 4, none⟩ = some x'.l.opers.val := fun w' h => (aks w' h).2.2.2.2.1
    have k5 : ∀ w' : World, BxP bx x' w' → w'.cell? ⟨bx, 5, none⟩ = some (.int .i64 x'.v.add) := fun w' h => (aks w' h).2.2.2.2.2.1
    have k6 : ∀ w' : World, BxP bx x' w' → w'.cell? ⟨bx, 6, none⟩ = some (.string x'.v.plus) := fun w' h => (aks w' h).2.2.2.2.2.2.1
    have k7 : ∀ w' : World, BxP bx x' w' → w'.cell? ⟨bx, 7, none⟩ = some (.string x'.v.minus) := fun w' h => (aks w' h).2.2.2.2.2.2.2.1
    have k8 : ∀ w' : World, BxP bx x' w' → w'.cell? ⟨bx, 8, none⟩ = some (.int .i64 x'.size) := fun w' h => (aks w' h).2.2.2.2.2.2.2.2.1
    have k9 : ∀ w' : World, BxP bx x' w' → w'.cell? ⟨bx, 9, none⟩ = some x'.b.val := fun w' h => (aks w' h).2.2.2.2.2.2.2.2.2.1
    have k10 : ∀ w' : World, BxP bx x' w' → w'.cell? ⟨bx, 10, none⟩ = some (.int .i64 x'.align) := fun w' h => (aks w' h).2.2.2.2.2.2.2.2.2.2
    clear aks
    refine wp_region_held_drew (S := BxP bx x') (by kernel_rfl) HH4.out (fun hHeld => ?_)
    refine wpAnyH_take (i := 0) (oi := { dst := some 35, op := Op.move (Operand.tmp 6), type := 107, pos := "frag.go:78", after := #[], guard := none }) (v := ?pbv0) rfl (by kernel_rfl) (by kernel_rfl) (by kernel_rfl) (fun _ _ _ h => h) (Or.inl ⟨by rfl, ?pbh0⟩) (by assumption) ?pbr0
    case pbh0 => ((intro w hSw; (try dsimp only at hSw); go_simp); try with_reducible rfl)
    try simp only [Act.put, List.setIfInBounds_toArray, List.set_cons_zero, List.set_cons_succ]
    refine wpAnyH_take (i := 1) (oi := { dst := some 36, op := Op.move (Operand.tmp 6), type := 107, pos := "frag.go:78", after := #[], guard := none }) (v := ?pbv1) rfl (by kernel_rfl) (by kernel_rfl) (by kernel_rfl) (fun _ _ _ h => h) (Or.inl ⟨by rfl, ?pbh1⟩) (by assumption) ?pbr1
    case pbh1 => ((intro w hSw; (try dsimp only at hSw); go_simp); try with_reducible rfl)
    try simp only [Act.put, List.setIfInBounds_toArray, List.set_cons_zero, List.set_cons_succ]
    refine wpAnyH_take (i := 2) (oi := { dst := some 37, op := Op.nilCheck (Operand.tmp 36), type := 0, pos := "frag.go:78", after := #[{ on := 1, ground := Ground.data }], guard := none }) (v := ?pbv2) rfl (by kernel_rfl) (by kernel_rfl) (by kernel_rfl) (fun _ _ _ h => h) (Or.inl ⟨by rfl, ?pbh2⟩) (by assumption) ?pbr2
    case pbh2 => ((intro w hSw; (try dsimp only at hSw); go_simp); try with_reducible rfl)
    try simp only [Act.put, List.setIfInBounds_toArray, List.set_cons_zero, List.set_cons_succ]
    refine wpAnyH_take (i := 3) (oi := { dst := some 38, op := Op.fieldAddr 50 (Operand.tmp 37) 3, type := 0, pos := "frag.go:78", after := #[{ on := 2, ground := Ground.data }], guard := none }) (v := ?pbv3) rfl (by kernel_rfl) (by kernel_rfl) (by kernel_rfl) (fun _ _ _ h => h) (Or.inl ⟨by rfl, ?pbh3⟩) (by assumption) ?pbr3
    case pbh3 => ((intro w hSw; (try dsimp only at hSw); go_simp); try with_reducible rfl)
    try simp only [Act.put, List.setIfInBounds_toArray, List.set_cons_zero, List.set_cons_succ]
    refine wpAnyH_take (i := 5) (oi := { dst := some 40, op := Op.load 64 (Operand.tmp 4), type := 64, pos := "frag.go:78", after := #[], guard := none }) (v := ?pbv5) rfl (by kernel_rfl) (by kernel_rfl) (by kernel_rfl) (fun _ _ _ h => h) (Or.inl ⟨by rfl, ?pbh5⟩) (by assumption) ?pbr5
    case pbh5 => ((intro w hSw; (try dsimp only at hSw); go_simp); try with_reducible rfl)
    try simp only [Act.put, List.setIfInBounds_toArray, List.set_cons_zero, List.set_cons_succ]
    refine wpAnyH_ready (rs := [4, 6]) (by kernel_rfl) (by simp) ?_
    refine AllReadyH.cons (o := { dst := some 39, op := Op.load 48 (Operand.tmp 38), type := 48, pos := "frag.go:78", after := #[{ on := 3, ground := Ground.data }], guard := none }) rfl (fun K hK => ?_) ?_
    ·go_simp; refine hK.out _ _ (by first | exact HH4.out | exact HSL.out _) (fun hHeld => ?_)
     clear hK K
     try simp only [Act.put, List.setIfInBounds_toArray, List.set_cons_zero, List.set_cons_succ]
     refine wpAnyH_ready (rs := [6]) (by kernel_rfl) (by simp) ?_
     refine AllReadyH.cons (o := { dst := some 41, op := Op.buildSlice 48 1 #[(0, Operand.tmp 40)], type := 48, pos := "frag.go:78", after := #[{ on := 5, ground := Ground.data }], guard := none }) rfl (fun K hK => ?_) AllReadyH.nil
     go_simp; refine hK.out _ _ (HSL.out _) (fun hHeld => ?_)
     clear hK K
     try simp only [Act.put, List.setIfInBounds_toArray, List.set_cons_zero, List.set_cons_succ]
     refine wpAnyH_ready (rs := [7]) (by kernel_rfl) (by simp) ?_
     refine AllReadyH.cons (o := { dst := some 42, op := Op.call { callee := Callee.builtin Builtin.append, args := #[Operand.tmp 39, Operand.tmp 41], argTypes := #[48, 48] }, type := 48, pos := "frag.go:78", after := #[{ on := 4, ground := Ground.data }, { on := 6, ground := Ground.data }], guard := none }) rfl (fun K hK => ?_) AllReadyH.nil
     (refine step_app EPiece rfl (.tmp 39) (.tmp 41) rfl base (.slice yp yl.length yc) yl.length (yl.flatMap PcR.cells) rfl (HY7.out.alloc _) _ 1 1 x'.cells rfl rfl (row_newAt _ _ _ _ rfl) (pcr_ones _) (by unfold maxLen; omega) (by omega) (by simp; omega) ?_); intro vp' w8 ho8 hg8 hs8; obtain ⟨p8, c8, rfl, -⟩ := own_shape ho8; have HO8 := hid ho8; have HG8 := hid hg8; have HS8 := hid hs8; clear ho8 hg8 hs8; obtain ⟨hh8, z8, zf8⟩ := HK8.out _ _ HG8.out; have HH8 := hid hh8; clear hh8; refine hK.out _ _ HH8.out (fun hHeld => ?_)
     clear hK K
     try simp only [Act.put, List.setIfInBounds_toArray, List.set_cons_zero, List.set_cons_succ]
     refine wpAnyH_take (i := 8) (oi := { dst := some 43, op := Op.nilCheck (Operand.tmp 35), type := 0, pos := "frag.go:78", after := #[{ on := 0, ground := Ground.data }, { on := 0, ground := Ground.phase }, { on := 1, ground := Ground.phase }, { on := 2, ground := Ground.phase }, { on := 3, ground := Ground.phase }, { on := 4, ground := Ground.phase }, { on := 5, ground := Ground.phase }, { on := 6, ground := Ground.phase }, { on := 7, ground := Ground.phase }], guard := none }) (v := ?pbav8) rfl (by kernel_rfl) (by kernel_rfl) (by kernel_rfl) (fun _ _ _ h => h) (Or.inl ⟨by rfl, ?pbah8⟩) (by assumption) ?pbar8
     case pbah8 => ((intro w hSw; (try dsimp only at hSw); go_simp); try with_reducible rfl)
     try simp only [Act.put, List.setIfInBounds_toArray, List.set_cons_zero, List.set_cons_succ]
     refine wpAnyH_take (i := 9) (oi := { dst := some 44, op := Op.fieldAddr 50 (Operand.tmp 43) 3, type := 0, pos := "frag.go:78", after := #[{ on := 8, ground := Ground.data }, { on := 0, ground := Ground.phase }, { on := 1, ground := Ground.phase }, { on := 2, ground := Ground.phase }, { on := 3, ground := Ground.phase }, { on := 4, ground := Ground.phase }, { on := 5, ground := Ground.phase }, { on := 6, ground := Ground.phase }, { on := 7, ground := Ground.phase }], guard := none }) (v := ?pbav9) rfl (by kernel_rfl) (by kernel_rfl) (by kernel_rfl) (fun _ _ _ h => h) (Or.inl ⟨by rfl, ?pbah9⟩) (by assumption) ?pbar9
     case pbah9 => ((intro w hSw; (try dsimp only at hSw); go_simp); try with_reducible rfl)
     try simp only [Act.put, List.setIfInBounds_toArray, List.set_cons_zero, List.set_cons_succ]
     refine wpAnyH_ready (rs := [10]) (by kernel_rfl) (by simp) ?_
     refine AllReadyH.cons (o := { dst := none, op := Op.store 48 (Operand.tmp 44) (Operand.tmp 42), type := 0, pos := "frag.go:78", after := #[{ on := 9, ground := Ground.data }, { on := 7, ground := Ground.data }, { on := 7, ground := Ground.chain }, { on := 0, ground := Ground.phase }, { on := 1, ground := Ground.phase }, { on := 2, ground := Ground.phase }, { on := 3, ground := Ground.phase }, { on := 4, ground := Ground.phase }, { on := 5, ground := Ground.phase }, { on := 6, ground := Ground.phase }, { on := 7, ground := Ground.phase }], guard := none }) rfl (fun K hK => ?_) AllReadyH.nil
     go_simp; refine hK.out _ _ (HBS.out _ _ HH8.out) (fun hHeld => ?_)
     clear hK K
     try simp only [Act.put, List.setIfInBounds_toArray, List.set_cons_zero, List.set_cons_succ]
     refine wpAnyH_done (by kernel_rfl) ?_ _
     go_wp2_with fail
     go_end0
     exact HFIN.out _ _ _ _ HO8.out HG8.out HS8.out
    refine AllReadyH.cons (o := { dst := some 41, op := Op.buildSlice 48 1 #[(0, Operand.tmp 40)], type := 48, pos := "frag.go:78", after := #[{ on := 5, ground := Ground.data }], guard := none }) rfl (fun K hK => ?_) AllReadyH.nil
    go_simp; refine hK.out _ _ (HSL.out _) (fun hHeld => ?_)
    clear hK K
    try simp only [Act.put, List.setIfInBounds_toArray, List.set_cons_zero, List.set_cons_succ]
    refine wpAnyH_ready (rs := [4]) (by kernel_rfl) (by simp) ?_
    refine AllReadyH.cons (o := { dst := some 39, op := Op.load 48 (Operand.tmp 38), type := 48, pos := "frag.go:78", after := #[{ on := 3, ground := Ground.data }], guard := none }) rfl (fun K hK => ?_) AllReadyH.nil
    go_simp; refine hK.out _ _ (by first | exact HH4.out | exact HSL.out _) (fun hHeld => ?_)
    clear hK K
    try simp only [Act.put, List.setIfInBounds_toArray, List.set_cons_zero, List.set_cons_succ]
    refine wpAnyH_ready (rs := [7]) (by kernel_rfl) (by simp) ?_
    refine AllReadyH.cons (o := { dst := some 42, op := Op.call { callee := Callee.builtin Builtin.append, args := #[Operand.tmp 39, Operand.tmp 41], argTypes := #[48, 48] }, type := 48, pos := "frag.go:78", after := #[{ on := 4, ground := Ground.data }, { on := 6, ground := Ground.data }], guard := none }) rfl (fun K hK => ?_) AllReadyH.nil
    (refine step_app EPiece rfl (.tmp 39) (.tmp 41) rfl base (.slice yp yl.length yc) yl.length (yl.flatMap PcR.cells) rfl (HY7.out.alloc _) _ 1 1 x'.cells rfl rfl (row_newAt _ _ _ _ rfl) (pcr_ones _) (by unfold maxLen; omega) (by omega) (by simp; omega) ?_); intro vp' w8 ho8 hg8 hs8; obtain ⟨p8, c8, rfl, -⟩ := own_shape ho8; have HO8 := hid ho8; have HG8 := hid hg8; have HS8 := hid hs8; clear ho8 hg8 hs8; obtain ⟨hh8, z8, zf8⟩ := HK8.out _ _ HG8.out; have HH8 := hid hh8; clear hh8; refine hK.out _ _ HH8.out (fun hHeld => ?_)
    clear hK K
    try simp only [Act.put, List.setIfInBounds_toArray, List.set_cons_zero, List.set_cons_succ]
    refine wpAnyH_take (i := 8) (oi := { dst := some 43, op := Op.nilCheck (Operand.tmp 35), type := 0, pos := "frag.go:78", after := #[{ on := 0, ground := Ground.data }, { on := 0, ground := Ground.phase }, { on := 1, ground := Ground.phase }, { on := 2, ground := Ground.phase }, { on := 3, ground := Ground.phase }, { on := 4, ground := Ground.phase }, { on := 5, ground := Ground.phase }, { on := 6, ground := Ground.phase }, { on := 7, ground := Ground.phase }], guard := none }) (v := ?pbbv8) rfl (by kernel_rfl) (by kernel_rfl) (by kernel_rfl) (fun _ _ _ h => h) (Or.inl ⟨by rfl, ?pbbh8⟩) (by assumption) ?pbbr8
    case pbbh8 => ((intro w hSw; (try dsimp only at hSw); go_simp); try with_reducible rfl)
    try simp only [Act.put, List.setIfInBounds_toArray, List.set_cons_zero, List.set_cons_succ]
    refine wpAnyH_take (i := 9) (oi := { dst := some 44, op := Op.fieldAddr 50 (Operand.tmp 43) 3, type := 0, pos := "frag.go:78", after := #[{ on := 8, ground := Ground.data }, { on := 0, ground := Ground.phase }, { on := 1, ground := Ground.phase }, { on := 2, ground := Ground.phase }, { on := 3, ground := Ground.phase }, { on := 4, ground := Ground.phase }, { on := 5, ground := Ground.phase }, { on := 6, ground := Ground.phase }, { on := 7, ground := Ground.phase }], guard := none }) (v := ?pbbv9) rfl (by kernel_rfl) (by kernel_rfl) (by kernel_rfl) (fun _ _ _ h => h) (Or.inl ⟨by rfl, ?pbbh9⟩) (by assumption) ?pbbr9
    case pbbh9 => ((intro w hSw; (try dsimp only at hSw); go_simp); try with_reducible rfl)
    try simp only [Act.put, List.setIfInBounds_toArray, List.set_cons_zero, List.set_cons_succ]
    refine wpAnyH_ready (rs := [10]) (by kernel_rfl) (by simp) ?_
    refine AllReadyH.cons (o := { dst := none, op := Op.store 48 (Operand.tmp 44) (Operand.tmp 42), type := 0, pos := "frag.go:78", after := #[{ on := 9, ground := Ground.data }, { on := 7, ground := Ground.data }, { on := 7, ground := Ground.chain }, { on := 0, ground := Ground.phase }, { on := 1, ground := Ground.phase }, { on := 2, ground := Ground.phase }, { on := 3, ground := Ground.phase }, { on := 4, ground := Ground.phase }, { on := 5, ground := Ground.phase }, { on := 6, ground := Ground.phase }, { on := 7, ground := Ground.phase }], guard := none }) rfl (fun K hK => ?_) AllReadyH.nil
    go_simp; refine hK.out _ _ (HBS.out _ _ HH8.out) (fun hHeld => ?_)
    clear hK K
    try simp only [Act.put, List.setIfInBounds_toArray, List.set_cons_zero, List.set_cons_succ]
    refine wpAnyH_done (by kernel_rfl) ?_ _
    go_wp2_with fail
    go_end0
    exact HFIN.out _ _ _ _ HO8.out HG8.out HS8.out
end Go.Proofs.Ythlingholhjcnaa
