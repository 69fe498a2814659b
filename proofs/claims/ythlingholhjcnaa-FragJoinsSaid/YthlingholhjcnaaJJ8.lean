/-
 The document's row: bytes, data, any kind.
 The document's row of any kind; One.
 The document's sameOpers on equal lists.
 The document's SamePiece on equal pieces.
 The document's sameParts on equal parts.
 The document's Same on equal units.
 slices.Equal of equal faults; the law's short.
-/
import Derived.Test.YthlingholhjcnaaJJ7
import Derived.Shelf.Bytes.SlSmallAll
namespace Go.Proofs.Ythlingholhjcnaa
open Go.RowKit
variable {W W' w w' : World} {base m : Nat} {X X' : FV} {file line : Int} {name : ByteArray}
theorem u8s_ones (l : List Int) : ∀ u ∈ l.flatMap (fun n : Int => [Value.int .u8 n]), u.oneCell' = true := fun u hu => by
 obtain ⟨c, _, h⟩ := List.mem_flatMap.1 hu
 simp at h; subst h; rfl
end Go.Proofs.Ythlingholhjcnaa
namespace Go.Proofs.Ythlingholhjcnaa
open Go.RowKit
variable {W W' w w' : World} {base m : Nat} {X X' : FV} {file line : Int} {name : ByteArray}
end Go.Proofs.Ythlingholhjcnaa
namespace Go.Proofs.Ythlingholhjcnaa
open Go.RowKit
variable {W W' w w' : World}
set_option maxRecDepth 20000 in
theorem run_neq_oc (a : Oc) (w : World) : (binOp .neq 72 (.agg #[.int .i64 a.kind, .int .i64 a.r.n, .bool a.r.x, .bool a.r.sp, .int .i64 a.m.n, .bool a.m.x, .bool a.m.sp, .int .i64 a.mod, .int .i64 a.amt, .int .i64 a.n, .int .i64 a.v.add, .string a.v.plus, .string a.v.minus, .bool a.lo, .int .i64 a.mode]) (.agg #[.int .i64 a.kind, .int .i64 a.r.n, .bool a.r.x, .bool a.r.sp, .int .i64 a.m.n, .bool a.m.x, .bool a.m.sp, .int .i64 a.mod, .int .i64 a.amt, .int .i64 a.n, .int .i64 a.v.add, .string a.v.plus, .string a.v.minus, .bool a.lo, .int .i64 a.mode])).run Try.prog w = .ok (.bool false) w := by
 go_simp
set_option maxRecDepth 20000 in
set_option maxHeartbeats 4000000 in
theorem sameo_any (a b : Sl Oc) (ha : SlOk W Oc.cells 120 a) (hb : SlOk W Oc.cells 120 b) (he : a.l = b.l) :
  Calls Try.prog 58 #[a.val, b.val] W fun e w' => e = .returned (.bool true) ∧ Below W.heap.size W w' := by
 obtain ⟨pa, ca, l⟩ := a
 obtain ⟨pb, cb, l2⟩ := b
 have he : l = l2 := he
 subst he
 unfold Sl.val
 have HA := hid ha.row
 have HB := hid hb.row
 have hcap : l.length * 120 ≤ 140737488351232 := ha.cap
 clear ha hb
 obtain ⟨n, hnn⟩ : ∃ n, n = l.length := ⟨_, rfl⟩
 have HNN := hid hnn
 show Calls Try.prog 58 #[.slice pa l.length ca, .slice pb l.length cb] W _
 rw [← hnn] at hcap ⊢
 clear hnn
 have HI0 : Hid (SameH W W ∧ Below W.heap.size W W) := ⟨rfl, Below.refl _ _⟩
 go_enter Try.func58, Try.ntmps58
 go_wp2_with (fail)
 go_loopw [5] (fun i wr => ∃ (k : Nat), k ≤ n ∧ i = .int .i64 k ∧ (SameH W wr ∧ Below W.heap.size W wr)) (fun i _ => n - (intOf i).toNat)
 case atStart => exact ⟨0, by omega, rfl, HI0.out⟩
 case round =>
  rename World => wr
  obtain ⟨k, hk, rfl, hsw, hbw⟩ := hrel
  have HSW := hid hsw
  have HBW := hid hbw
  clear HI0
  have hHeld0 : SameH wr wr.drew := rfl
  by_cases hlt : k < n
  ·have hkI : (k : Int) < n := by omega
   have hkl : k < l.length := by rw [← HNN.out]; exact hlt
   have hlen : 0 < (l.flatMap Oc.cells).length := by rw [flat_len Oc.cells 15 (fun _ => rfl)]; omega
   obtain ⟨b1, o1, rfl, hbl1, -⟩ := HA.out.at hlen
   obtain ⟨b2, o2, rfl, hbl2, -⟩ := HB.out.at hlen
   have A := oc_cells HA.out k hkl
   have B := oc_cells HB.out k hkl
   generalize l[k] = x at A B
   obtain ⟨c0, c1, c2, c3, c4, c5, c6, c7, c8, c9, c10, c11, c12, c13, c14⟩ := A
   obtain ⟨d0, d1, d2, d3, d4, d5, d6, d7, d8, d9, d10, d11, d12, d13, d14⟩ := B
   have up : ∀ {ad : Addr} {v : Value}, W.cell? ad = some v → ∀ w1 : World, SameH wr w1 → w1.cell? ad = some v := fun hc w1 hw => hw.cell (hsw.cell hc)
   replace c0 := up c0; replace c1 := up c1; replace c2 := up c2; replace c3 := up c3; replace c4 := up c4; replace c5 := up c5; replace c6 := up c6; replace c7 := up c7; replace c8 := up c8; replace c9 := up c9; replace c10 := up c10; replace c11 := up c11; replace c12 := up c12; replace c13 := up c13; replace c14 := up c14
   replace d0 := up d0; replace d1 := up d1; replace d2 := up d2; replace d3 := up d3; replace d4 := up d4; replace d5 := up d5; replace d6 := up d6; replace d7 := up d7; replace d8 := up d8; replace d9 := up d9; replace d10 := up d10; replace d11 := up d11; replace d12 := up d12; replace d13 := up d13; replace d14 := up d14
   have heq := run_neq_oc x
   clear hsw hbw hlen up
   go_wp2_with (fail)
   go_upto_region 6 with (fail)
   refine wp_region_held_drew (S := SameH wr) (by kernel_rfl) hHeld0 (fun hHeld => ?_)
   refine wpAnyH_take (i := 0) (oi := { dst := some 17, op := Op.move (Operand.tmp 0), type := 23, pos := "ref.go:291", after := #[], guard := none }) (v := ?pav0) rfl (by kernel_rfl) (by kernel_rfl) (by kernel_rfl) (fun _ _ _ h => h) (Or.inl ⟨by rfl, ?pah0⟩) (by assumption) ?par0
   case pah0 => ((intro w hSw; (try dsimp only at hSw); go_simp); try with_reducible rfl)
   try simp only [Act.put, List.setIfInBounds_toArray, List.set_cons_zero, List.set_cons_succ]
   refine wpAnyH_take (i := 1) (oi := { dst := some 18, op := Op.move (Operand.tmp 5), type := 3, pos := "ref.go:291", after := #[], guard := none }) (v := ?pav1) rfl (by kernel_rfl) (by kernel_rfl) (by kernel_rfl) (fun _ _ _ h => h) (Or.inl ⟨by rfl, ?pah1⟩) (by assumption) ?par1
   case pah1 => ((intro w hSw; (try dsimp only at hSw); go_simp); try with_reducible rfl)
   try simp only [Act.put, List.setIfInBounds_toArray, List.set_cons_zero, List.set_cons_succ]
   refine wpAnyH_take (i := 2) (oi := { dst := some 19, op := Op.indexAddr 23 (Operand.tmp 17) (Operand.tmp 18), type := 0, pos := "ref.go:291", after := #[{ on := 0, ground := Ground.data }, { on := 1, ground := Ground.data }], guard := none }) (v := ?pav2) rfl (by kernel_rfl) (by kernel_rfl) (by kernel_rfl) (fun _ _ _ h => h) (Or.inl ⟨by rfl, ?pah2⟩) (by assumption) ?par2
   case pah2 => ((intro w hSw; (try dsimp only at hSw); go_simp); try with_reducible rfl)
   try simp only [Act.put, List.setIfInBounds_toArray, List.set_cons_zero, List.set_cons_succ]
   refine wpAnyH_take (i := 3) (oi := { dst := some 20, op := Op.load 72 (Operand.tmp 19), type := 72, pos := "ref.go:291", after := #[{ on := 2, ground := Ground.data }], guard := none }) (v := ?pav3) rfl (by kernel_rfl) (by kernel_rfl) (by kernel_rfl) (fun _ _ _ h => h) (Or.inl ⟨by rfl, ?pah3⟩) (by assumption) ?par3
   case pah3 => ((intro w hSw; (try dsimp only at hSw); go_simp); try with_reducible rfl)
   try simp only [Act.put, List.setIfInBounds_toArray, List.set_cons_zero, List.set_cons_succ]
   refine wpAnyH_take (i := 4) (oi := { dst := some 21, op := Op.move (Operand.tmp 1), type := 23, pos := "ref.go:291", after := #[], guard := none }) (v := ?pav4) rfl (by kernel_rfl) (by kernel_rfl) (by kernel_rfl) (fun _ _ _ h => h) (Or.inl ⟨by rfl, ?pah4⟩) (by assumption) ?par4
   case pah4 => ((intro w hSw; (try dsimp only at hSw); go_simp); try with_reducible rfl)
   try simp only [Act.put, List.setIfInBounds_toArray, List.set_cons_zero, List.set_cons_succ]
   refine wpAnyH_take (i := 5) (oi := { dst := some 22, op := Op.move (Operand.tmp 5), type := 3, pos := "ref.go:291", after := #[], guard := none }) (v := ?pav5) rfl (by kernel_rfl) (by kernel_rfl) (by kernel_rfl) (fun _ _ _ h => h) (Or.inl ⟨by rfl, ?pah5⟩) (by assumption) ?par5
   case pah5 => ((intro w hSw; (try dsimp only at hSw); go_simp); try with_reducible rfl)
   try simp only [Act.put, List.setIfInBounds_toArray, List.set_cons_zero, List.set_cons_succ]
   refine wpAnyH_take (i := 6) (oi := { dst := some 23, op := Op.indexAddr 23 (Operand.tmp 21) (Operand.tmp 22), type := 0, pos := "ref.go:291", after := #[{ on := 4, ground := Ground.data }, { on := 5, ground := Ground.data }], guard := none }) (v := ?pav6) rfl (by kernel_rfl) (by kernel_rfl) (by kernel_rfl) (fun _ _ _ h => h) (Or.inl ⟨by rfl, ?pah6⟩) (by assumption) ?par6
   case pah6 => ((intro w hSw; (try dsimp only at hSw); go_simp); try with_reducible rfl)
   try simp only [Act.put, List.setIfInBounds_toArray, List.set_cons_zero, List.set_cons_succ]
   refine wpAnyH_take (i := 7) (oi := { dst := some 24, op := Op.load 72 (Operand.tmp 23), type := 72, pos := "ref.go:291", after := #[{ on := 6, ground := Ground.data }], guard := none }) (v := ?pav7) rfl (by kernel_rfl) (by kernel_rfl) (by kernel_rfl) (fun _ _ _ h => h) (Or.inl ⟨by rfl, ?pah7⟩) (by assumption) ?par7
   case pah7 => ((intro w hSw; (try dsimp only at hSw); go_simp); try with_reducible rfl)
   try simp only [Act.put, List.setIfInBounds_toArray, List.set_cons_zero, List.set_cons_succ]
   refine wpAnyH_take (i := 8) (oi := { dst := some 25, op := Op.binOp BinOp.neq 72 (Operand.tmp 20) (Operand.tmp 24) 72, type := 4, pos := "ref.go:291", after := #[{ on := 3, ground := Ground.data }, { on := 7, ground := Ground.data }], guard := none }) (v := ?pav8) rfl (by kernel_rfl) (by kernel_rfl) (by kernel_rfl) (fun _ _ _ h => h) (Or.inl ⟨by rfl, ?pah8⟩) (by assumption) ?par8
   case pah8 => ((intro w hSw; (try dsimp only at hSw); go_simp); try with_reducible rfl)
   try simp only [Act.put, List.setIfInBounds_toArray, List.set_cons_zero, List.set_cons_succ]
   refine wpAnyH_done (by kernel_rfl) ?_ _
   go_wp2_with fail
   exact ⟨⟨k + 1, by omega, by go_num, HSW.out, HBW.out.drew⟩, by simp [intOf]; omega⟩
  ·have hke : k = n := by omega
   subst hke
   go_wp2_with (fail)
   go_ret
   exact ⟨rfl, HBW.out⟩
end Go.Proofs.Ythlingholhjcnaa
namespace Go.Proofs.Ythlingholhjcnaa
open Go.RowKit
variable {W W' w w' : World}
theorem conv_any (b : Sl Int) (h : SlOk W (fun n : Int => [Value.int .u8 n]) 1 b) : (convert 55 9 (.slice b.p b.l.length b.c)).run Try.prog W = .ok (.string (strOfNums b.l)) W := by
 obtain ⟨p, c, l⟩ := b
 obtain ⟨hrow, -, -, -⟩ := h
 dsimp only at hrow ⊢
 cases l with
 | nil => exact run_convert_bytes_zero W _ _ (show Try.prog.underlying 55 = some (.slice 5) from by kernel_rfl) (by kernel_rfl) p c _ (by kernel_rfl)
 | cons a l =>
  obtain ⟨b, o, rfl, -, hc⟩ := hrow.at (by simp)
  rw [← map_flat1] at hc
  refine run_convert_bytes_arg W _ _ (show Try.prog.underlying 55 = some (.slice 5) from by kernel_rfl) (by kernel_rfl) b o _ c _ rfl (fun i hi => ?_) _ (by kernel_rfl)
  rw [hc i (by simpa using hi)]
  have hi2 : i < (a :: l).length := hi
  rw [List.getElem_map]
  simp only [List.getD_eq_getElem?_getD, List.getElem?_eq_getElem hi2]
  rfl
structure PcB (W W2 : World) (a b : PcR) : Prop where
 eq : W2 = (W.alloc (.cells a.cells.toArray 64)).alloc (.cells b.cells.toArray 64)
 a : BxP W.heap.size a W2
 b : BxP (W.heap.size + 1) b W2
 w : Below W.heap.size W W2
theorem pcb (W : World) (a b : PcR) : ∃ W2, PcB W W2 a b := ⟨_, rfl, (Below.heap_alloc _ _ _ (by simp)).trans (heap_alloc_new _ _), heap_newAt _ _ _ (by simp), ((Below.refl _ _).alloc (Nat.le_refl _) _).alloc (by simp) _⟩
theorem PcB.lt {W W2 : World} {a b : PcR} (h : PcB W W2 a b) : W.heap.size + 1 < W2.heap.size := (Array.getElem?_eq_some_iff.1 h.b).1
theorem box_up {bx : Nat} {x : PcR} (h : BxP bx x W) (w' : World) (hb : Below W.heap.size W w') : BxP bx x w' := (hb.block bx (Array.getElem?_eq_some_iff.1 h).1).trans h
theorem bx_cells {bx : Nat} {x : PcR} (h : BxP bx x W) : W.cell? ⟨bx, 0, none⟩ = some (.int .i64 x.kind) ∧ W.cell? ⟨bx, 1, none⟩ = some (.int .i64 x.file) ∧ W.cell? ⟨bx, 2, none⟩ = some (.int .i64 x.line) ∧ W.cell? ⟨bx, 3, none⟩ = some (.string x.l.name) ∧ W.cell? ⟨bx, 4, none⟩ = some (.slice x.l.opers.p x.l.opers.l.length x.l.opers.c) ∧ W.cell? ⟨bx, 5, none⟩ = some (.int .i64 x.v.add) ∧ W.cell? ⟨bx, 6, none⟩ = some (.string x.v.plus) ∧ W.cell? ⟨bx, 7, none⟩ = some (.string x.v.minus) ∧ W.cell? ⟨bx, 8, none⟩ = some (.int .i64 x.size) ∧ W.cell? ⟨bx, 9, none⟩ = some (.slice x.b.p x.b.l.length x.b.c) ∧ W.cell? ⟨bx, 10, none⟩ = some (.int .i64 x.align) := box_cells h
set_option maxRecDepth 40000 in
set_option maxHeartbeats 4000000 in
theorem samep_any (a b : PcR) (hao : SlOk W Oc.cells 120 a.l.opers) (hbo : SlOk W Oc.cells 120 b.l.opers) (hab : SlOk W (fun n : Int => [Value.int .u8 n]) 1 a.b) (hbb : SlOk W (fun n : Int => [Value.int .u8 n]) 1 b.b) (he : a.pl = b.pl) :
  Calls Try.prog 47 #[.agg a.cells.toArray, .agg b.cells.toArray] W fun e w' => e = .returned (.bool true) ∧ Below W.heap.size W w' := by
 obtain ⟨W2, hW2⟩ := pcb W a b
 have HW := hid hW2
 have hlt := hW2.lt
 have HSO : Hid (∀ w' : World, Below W2.heap.size W2 w' → Calls Try.prog 58 #[.slice a.l.opers.p a.l.opers.l.length a.l.opers.c, .slice b.l.opers.p b.l.opers.l.length b.l.opers.c] w' fun e w2 => e = .returned (.bool true) ∧ Below w'.heap.size w' w2) := fun w' hw =>
  sameo_any _ _ ((hao.below hW2.w).below hw) ((hbo.below hW2.w).below hw) (congrArg Pc.opers he)
 have hel : b.b.l = a.b.l := (congrArg Pc.b he).symm
 have hca : ∀ w' : World, Below W2.heap.size W2 w' → (convert 55 9 (.slice a.b.p a.b.l.length a.b.c)).run Try.prog w' = .ok (.string (strOfNums b.b.l)) w' := fun w' hw => by rw [hel]; exact conv_any a.b ((hab.below hW2.w).below hw)
 have hcb : ∀ w' : World, Below W2.heap.size W2 w' → (convert 55 9 (.slice b.b.p b.b.l.length b.b.c)).run Try.prog w' = .ok (.string (strOfNums b.b.l)) w' := fun w' hw => conv_any b.b ((hbb.below hW2.w).below hw)
 generalize strOfNums b.b.l = sb at hca hcb
 have A := fun (w' : World) (hw : Below W2.heap.size W2 w') => bx_cells (box_up hW2.a w' hw)
 have B := fun (w' : World) (hw : Below W2.heap.size W2 w') => bx_cells (box_up hW2.b w' hw)
 have hev := run_eql_vv a.v a.v
 have hvv : b.v = a.v := (congrArg Pc.v he).symm
 rw [hvv, show b.kind = a.kind from (congrArg Pc.kind he).symm, show b.file = a.file from (congrArg Pc.file he).symm, show b.line = a.line from (congrArg Pc.line he).symm, show b.l.name = a.l.name from (congrArg Pc.name he).symm, show b.size = a.size from (congrArg Pc.size he).symm, show b.align = a.align from (congrArg Pc.align he).symm] at B
 have HE : Hid (W2 = (W.alloc (.cells a.cells.toArray 64)).alloc (.cells b.cells.toArray 64)) := hW2.eq
 clear hao hbo hab hbb he hW2 hvv hel
 have c0 := fun w' hw => (A w' hw).1
 have c1 := fun w' hw => (A w' hw).2.1
 have c2 := fun w' hw => (A w' hw).2.2.1
 have c3 := fun w' hw => (A w' hw).2.2.2.1
 have c4 := fun w' hw => (A w' hw).2.2.2.2.1
 have c5 := fun w' hw => (A w' hw).2.2.2.2.2.1
 have c6 := fun w' hw => (A w' hw).2.2.2.2.2.2.1
 have c7 := fun w' hw => (A w' hw).2.2.2.2.2.2.2.1
 have c8 := fun w' hw => (A w' hw).2.2.2.2.2.2.2.2.1
 have c9 := fun w' hw => (A w' hw).2.2.2.2.2.2.2.2.2.1
 have c10 := fun w' hw => (A w' hw).2.2.2.2.2.2.2.2.2.2
 have d0 := fun w' hw => (B w' hw).1
 have d1 := fun w' hw => (B w' hw).2.1
 have d2 := fun w' hw => (B w' hw).2.2.1
 have d3 := fun w' hw => (B w' hw).2.2.2.1
 have d4 := fun w' hw => (B w' hw).2.2.2.2.1
 have d5 := fun w' hw => (B w' hw).2.2.2.2.2.1
 have d6 := fun w' hw => (B w' hw).2.2.2.2.2.2.1
 have d7 := fun w' hw => (B w' hw).2.2.2.2.2.2.2.1
 have d8 := fun w' hw => (B w' hw).2.2.2.2.2.2.2.2.1
 have d9 := fun w' hw => (B w' hw).2.2.2.2.2.2.2.2.2.1
 have d10 := fun w' hw => (B w' hw).2.2.2.2.2.2.2.2.2.2
 clear A B
 unfold PcR.cells at HE ⊢
 go_enter Try.func47, Try.ntmps47
 go_upto_region 1 with (fail)
 rw [← HE.out]
 have hq0 : Below W2.heap.size W2 W2 := Below.refl _ _
 go_wp2_with (go_at_call 58; (with_reducible refine (HSO.out _ (by assumption)).mono ?_); rintro e w7 ⟨rfl, hb7⟩; have hq7 : Below W2.heap.size W2 w7 := hb7)
 go_ret
 exact ⟨rfl, HW.out.w.trans (hq7.mono HW.out.w.size)⟩
end Go.Proofs.Ythlingholhjcnaa
namespace Go.Proofs.Ythlingholhjcnaa
open Go.RowKit
variable {W W' w w' : World}
structure PcRd (W : World) (x : PcR) : Prop where
 op : SlOk W Oc.cells 120 x.l.opers
 b : SlOk W (fun n : Int => [Value.int .u8 n]) 1 x.b
structure PtRd (W : World) (y : PtR) : Prop where
 row : Row W y.pieces.p (y.pieces.l.flatMap PcR.cells)
 len : y.pieces.l.length ≤ 1000000000000
 pcs : ∀ x ∈ y.pieces.l, PcRd W x
theorem PcRd.below {x : PcR} (h : PcRd W x) (hb : Below W.heap.size W w) : PcRd w x := ⟨h.op.below hb, h.b.below hb⟩
theorem PtRd.below {y : PtR} (h : PtRd W y) (hb : Below W.heap.size W w) : PtRd w y := ⟨h.row.below hb, h.len, fun x hx => (h.pcs x hx).below hb⟩
theorem samep_ex (a b : PcR) (ha : PcRd W a) (hb : PcRd W b) (he : a.pl = b.pl) :
  Calls Try.prog 47 #[.agg #[.int .i64 a.kind, .int .i64 a.file, .int .i64 a.line, .string a.l.name, .slice a.l.opers.p a.l.opers.l.length a.l.opers.c, .int .i64 a.v.add, .string a.v.plus, .string a.v.minus, .int .i64 a.size, .slice a.b.p a.b.l.length a.b.c, .int .i64 a.align], .agg #[.int .i64 b.kind, .int .i64 b.file, .int .i64 b.line, .string b.l.name, .slice b.l.opers.p b.l.opers.l.length b.l.opers.c, .int .i64 b.v.add, .string b.v.plus, .string b.v.minus, .int .i64 b.size, .slice b.b.p b.b.l.length b.b.c, .int .i64 b.align]] W fun e w' => e = .returned (.bool true) ∧ Below W.heap.size W w' :=
 samep_any a b ha.op hb.op ha.b hb.b he
theorem pt_ex {b o : Nat} {ys : List PtR} (h : Row w (some ⟨b, o, none⟩) (ys.flatMap PtR.cells)) (k : Nat) (hk : k < ys.length) : w.cell? ⟨b, o + k * 4, none⟩ = some (.string ys[k].name) ∧ w.cell? ⟨b, o + k * 4 + 1, none⟩ = some (.int .i64 ys[k].file) ∧ w.cell? ⟨b, o + k * 4 + 2, none⟩ = some (.int .i64 ys[k].line) ∧ w.cell? ⟨b, o + k * 4 + 3, none⟩ = some (.slice ys[k].pieces.p ys[k].pieces.l.length ys[k].pieces.c) := ptr_cells h k hk
theorem pc_ex {b o : Nat} {ys : List PcR} (h : Row w (some ⟨b, o, none⟩) (ys.flatMap PcR.cells)) (k : Nat) (hk : k < ys.length) :
  w.cell? ⟨b, o + k * 11, none⟩ = some (.int .i64 ys[k].kind) ∧ w.cell? ⟨b, o + k * 11 + 1, none⟩ = some (.int .i64 ys[k].file) ∧ w.cell? ⟨b, o + k * 11 + 2, none⟩ = some (.int .i64 ys[k].line) ∧ w.cell? ⟨b, o + k * 11 + 3, none⟩ = some (.string ys[k].l.name) ∧ w.cell? ⟨b, o + k * 11 + 4, none⟩ = some (.slice ys[k].l.opers.p ys[k].l.opers.l.length ys[k].l.opers.c) ∧ w.cell? ⟨b, o + k * 11 + 5, none⟩ = some (.int .i64 ys[k].v.add) ∧ w.cell? ⟨b, o + k * 11 + 6, none⟩ = some (.string ys[k].v.plus) ∧ w.cell? ⟨b, o + k * 11 + 7, none⟩ = some (.string ys[k].v.minus) ∧ w.cell? ⟨b, o + k * 11 + 8, none⟩ = some (.int .i64 ys[k].size) ∧ w.cell? ⟨b, o + k * 11 + 9, none⟩ = some (.slice ys[k].b.p ys[k].b.l.length ys[k].b.c) ∧ w.cell? ⟨b, o + k * 11 + 10, none⟩ = some (.int .i64 ys[k].align) := pcr_cells h k hk
theorem below_on (h : Below w.heap.size w w') (h0 : Below W.heap.size W w) : Below W.heap.size W w' := h0.trans (h.mono h0.size)
set_option maxRecDepth 40000 in
set_option maxHeartbeats 4000000 in
theorem samepts_any (pa pb : Option Addr) (ca cb : Nat) (l1 l2 : List PtR) (h1 : Row W pa (l1.flatMap PtR.cells)) (h2 : Row W pb (l2.flatMap PtR.cells)) (r1 : ∀ y ∈ l1, PtRd W y) (r2 : ∀ y ∈ l2, PtRd W y) (hlen : l1.length ≤ 1000000000000) (he : l1.map PtR.pl = l2.map PtR.pl) :
  Calls Try.prog 27 #[.slice pa l1.length ca, .slice pb l2.length cb] W fun e w' => e = .returned (.bool true) ∧ Below W.heap.size W w' := by
 have hll : l2.length = l1.length := by have := congrArg List.length he; simpa using this.symm
 have HE : Hid (∀ (k : Nat) (k1 : k < l1.length) (k2 : k < l2.length), l1[k].pl = l2[k].pl) := fun k k1 k2 => by
  have : (l1.map PtR.pl)[k]'(by simpa using k1) = (l2.map PtR.pl)[k]'(by simpa using k2) := List.getElem_of_eq he _
  simpa using this
 have HH := hid (And.intro h1 h2)
 have HR := hid (And.intro r1 r2)
 obtain ⟨n, hnn⟩ : ∃ n, n = l1.length := ⟨_, rfl⟩
 rw [hll, ← hnn]
 have HN1 : Hid (l1.length = n) := hnn.symm
 have HN2 : Hid (l2.length = n) := by rw [hnn]; exact hll
 have hn : n ≤ 1000000000000 := by omega
 clear h1 h2 r1 r2 hlen he hll hnn
 have hb0 : Below W.heap.size W W := Below.refl _ _
 go_enter Try.func27, Try.ntmps27
 go_wp2_with (fail)
 go_loopw [5] (fun i wr => ∃ (k : Nat), k ≤ n ∧ i = .int .i64 k ∧ Below W.heap.size W wr) (fun i _ => n - (intOf i).toNat)
 case atStart => exact ⟨0, by omega, rfl, hb0⟩
 case round =>
  rename World => wr
  obtain ⟨k, hk, rfl, hbw⟩ := hrel
  clear hb0
  have HBW := hid hbw
  by_cases hlt : k < n
  ·have hkI : (k : Int) < n := by omega
   have k1 : k < l1.length := by rw [HN1.out]; exact hlt
   have k2 : k < l2.length := by rw [HN2.out]; exact hlt
   obtain ⟨b1, o1, rfl, hbl1, -⟩ := HH.out.1.at (by rw [flat_len PtR.cells 4 (fun _ => rfl)]; omega)
   obtain ⟨b2, o2, rfl, hbl2, -⟩ := HH.out.2.at (by rw [flat_len PtR.cells 4 (fun _ => rfl)]; omega)
   have A := fun (w' : World) (hw : Below W.heap.size W w') => pt_ex (HH.out.1.below hw) k k1
   have B := fun (w' : World) (hw : Below W.heap.size W w') => pt_ex (HH.out.2.below hw) k k2
   have he := HE.out k k1 k2
   have R1 := HR.out.1 _ (List.getElem_mem k1)
   have R2 := HR.out.2 _ (List.getElem_mem k2)
   generalize l1[k] = y1 at A he R1
   generalize l2[k] = y2 at B he R2
   have hpl : y2.pieces.l.length = y1.pieces.l.length := by have := congrArg (fun p => p.pieces.length) he; simpa [PtR.pl] using this.symm
   have HEP : Hid (∀ (j : Nat) (j1 : j < y1.pieces.l.length) (j2 : j < y2.pieces.l.length), y1.pieces.l[j].pl = y2.pieces.l[j].pl) := fun j j1 j2 => by
    have e0 : y1.pieces.l.map PcR.pl = y2.pieces.l.map PcR.pl := congrArg Pt.pieces he
    have : (y1.pieces.l.map PcR.pl)[j]'(by simpa using j1) = (y2.pieces.l.map PcR.pl)[j]'(by simpa using j2) := List.getElem_of_eq e0 _
    simpa using this
   rw [show y2.name = y1.name from (congrArg Pt.name he).symm, show y2.file = y1.file from (congrArg Pt.file he).symm, show y2.line = y1.line from (congrArg Pt.line he).symm, hpl] at B
   have hm := R1.len
   obtain ⟨m, hmm⟩ : ∃ m, m = y1.pieces.l.length := ⟨_, rfl⟩
   rw [← hmm] at A B hm hpl
   have HM1 : Hid (y1.pieces.l.length = m) := hmm.symm
   have HM2 := hid hpl
   have HRR := hid (And.intro R1 R2)
   clear hmm hpl R1 R2 he
   have c0 := fun w' hw => (A w' hw).1
   have c1 := fun w' hw => (A w' hw).2.1
   have c2 := fun w' hw => (A w' hw).2.2.1
   have c3 := fun w' hw => (A w' hw).2.2.2
   have d0 := fun w' hw => (B w' hw).1
   have d1 := fun w' hw => (B w' hw).2.1
   have d2 := fun w' hw => (B w' hw).2.2.1
   have d3 := fun w' hw => (B w' hw).2.2.2
   clear A B
   go_wp2_with (fail)
   go_upto_region 6 with (fail)
   go_region_held3 (fun w' => Below W.heap.size W w') (first | (with_reducible assumption) | exact hbw.drew) (first | fail)
   go_wp2_with (fail)
   have hbd : Below W.heap.size W wr.drew := hbw.drew
   go_loopw [6] (fun i wx => ∃ (j : Nat), j ≤ m ∧ i = .int .i64 j ∧ Below W.heap.size W wx) (fun i _ => m - (intOf i).toNat)
   case atStart => exact ⟨0, by omega, rfl, by assumption⟩
   case round =>
    rename World => wx
    obtain ⟨j, hj, rfl, hbx⟩ := hrel
    clear hbd hbw
    have HBX := hid hbx
    by_cases hjl : j < m
    ·have hjI : (j : Int) < m := by omega
     have j1 : j < y1.pieces.l.length := by rw [HM1.out]; exact hjl
     have j2 : j < y2.pieces.l.length := by rw [HM2.out]; exact hjl
     have rA := HRR.out.1.row
     have rB := HRR.out.2.row
     obtain ⟨b3, o3, hp1, hbl3, -⟩ := rA.at (by rw [flat_len PcR.cells 11 (fun _ => rfl)]; omega)
     obtain ⟨b4, o4, hp2, hbl4, -⟩ := rB.at (by rw [flat_len PcR.cells 11 (fun _ => rfl)]; omega)
     rw [hp1] at rA c3
     rw [hp2] at rB d3
     clear hp1 hp2
     have A2 := fun (w' : World) (hw : Below W.heap.size W w') => pc_ex (rA.below hw) j j1
     have B2 := fun (w' : World) (hw : Below W.heap.size W w') => pc_ex (rB.below hw) j j2
     have hsp := fun (w' : World) (hw : Below W.heap.size W w') => samep_ex _ _ ((HRR.out.1.pcs _ (List.getElem_mem j1)).below hw) ((HRR.out.2.pcs _ (List.getElem_mem j2)).below hw) (HEP.out j j1 j2)
     clear rA rB
     generalize y1.pieces.l[j] = x1 at A2 hsp
     generalize y2.pieces.l[j] = x2 at B2 hsp
     have HSP := hid hsp
     clear hsp
     have e0 := fun w' hw => (A2 w' hw).1
     have e1 := fun w' hw => (A2 w' hw).2.1
     have e2 := fun w' hw => (A2 w' hw).2.2.1
     have e3 := fun w' hw => (A2 w' hw).2.2.2.1
     have e4 := fun w' hw => (A2 w' hw).2.2.2.2.1
     have e5 := fun w' hw => (A2 w' hw).2.2.2.2.2.1
     have e6 := fun w' hw => (A2 w' hw).2.2.2.2.2.2.1
     have e7 := fun w' hw => (A2 w' hw).2.2.2.2.2.2.2.1
     have e8 := fun w' hw => (A2 w' hw).2.2.2.2.2.2.2.2.1
     have e9 := fun w' hw => (A2 w' hw).2.2.2.2.2.2.2.2.2.1
     have e10 := fun w' hw => (A2 w' hw).2.2.2.2.2.2.2.2.2.2
     have f0 := fun w' hw => (B2 w' hw).1
     have f1 := fun w' hw => (B2 w' hw).2.1
     have f2 := fun w' hw => (B2 w' hw).2.2.1
     have f3 := fun w' hw => (B2 w' hw).2.2.2.1
     have f4 := fun w' hw => (B2 w' hw).2.2.2.2.1
     have f5 := fun w' hw => (B2 w' hw).2.2.2.2.2.1
     have f6 := fun w' hw => (B2 w' hw).2.2.2.2.2.2.1
     have f7 := fun w' hw => (B2 w' hw).2.2.2.2.2.2.2.1
     have f8 := fun w' hw => (B2 w' hw).2.2.2.2.2.2.2.2.1
     have f9 := fun w' hw => (B2 w' hw).2.2.2.2.2.2.2.2.2.1
     have f10 := fun w' hw => (B2 w' hw).2.2.2.2.2.2.2.2.2.2
     clear A2 B2 c0 c1 c2 d0 d1 d2
     go_wp2_with (fail)
     go_upto_region 11 with (fail)
     go_region_held3 (fun w' => Below W.heap.size W w') (first | (with_reducible assumption) | exact hbx.drew)
      (first | (go_at_call 47; (with_reducible refine (HSP.out _ (by assumption)).mono ?_); rintro e w7 ⟨rfl, hb7⟩; have hq7 : Below W.heap.size W w7 := below_on hb7 (by assumption)))
     go_wp2_with (fail)
     exact ⟨⟨j + 1, by omega, by go_num, by assumption⟩, by simp [intOf]; omega⟩
    ·have hje : j = m := by omega
     subst hje
     go_wp2_with (fail)
     exact ⟨⟨k + 1, by omega, by go_num, HBX.out⟩, by simp [intOf]; omega⟩
  ·have hke : k = n := by omega
   subst hke
   go_wp2_with (fail)
   go_ret
   exact ⟨rfl, HBW.out⟩
end Go.Proofs.Ythlingholhjcnaa
namespace Go.Proofs.Ythlingholhjcnaa
open Go.RowKit
variable {W W' w w' : World}
set_option maxRecDepth 20000 in
theorem run_neq_mk (a : Mk) (w : World) : (binOp .neq 81 (.agg #[.string a.name, .int .i64 a.file, .int .i64 a.line, .int .i64 a.part, .int .i64 a.piece, .bool a.equ, .int .i64 a.v.add, .string a.v.plus, .string a.v.minus]) (.agg #[.string a.name, .int .i64 a.file, .int .i64 a.line, .int .i64 a.part, .int .i64 a.piece, .bool a.equ, .int .i64 a.v.add, .string a.v.plus, .string a.v.minus])).run Try.prog w = .ok (.bool false) w := by
 go_simp
set_option maxRecDepth 20000 in
theorem run_neq_td (a : Td) (w : World) : (binOp .neq 90 (.agg #[.string a.name, .int .i64 a.file, .int .i64 a.line]) (.agg #[.string a.name, .int .i64 a.file, .int .i64 a.line])).run Try.prog w = .ok (.bool false) w := by
 go_simp
theorem un_boxes (W : World) (v0 v1 v2 u0 u1 u2 : Value) : ∃ W2, W2 = (W.alloc (.cells #[v0, v1, v2] 32)).alloc (.cells #[u0, u1, u2] 32) ∧ W2.heap[W.heap.size]? = some (.cells #[v0, v1, v2] 32 (0, 0)) ∧ W2.heap[W.heap.size + 1]? = some (.cells #[u0, u1, u2] 32 (0, 0)) ∧ Below W.heap.size W W2 :=
 ⟨_, rfl, (Below.heap_alloc _ _ _ (by simp)).trans (heap_alloc_new _ _), heap_newAt _ _ _ (by simp), ((Below.refl _ _).alloc (Nat.le_refl _) _).alloc (by simp) _⟩
theorem blk_up {b : Nat} {o : Obj} (h : W.heap[b]? = some o) (w' : World) (hb : Below W.heap.size W w') : w'.heap[b]? = some o := (hb.block b (Array.getElem?_eq_some_iff.1 h).1).trans h
set_option maxRecDepth 40000 in
set_option maxHeartbeats 4000000 in
theorem same_any (pa pb ma mb ga gb : Option Addr) (ca cb da db ea eb : Nat) (l1 l2 : List PtR) (ms : List Mk) (gs : List Td) (h1 : Row W pa (l1.flatMap PtR.cells)) (h2 : Row W pb (l2.flatMap PtR.cells)) (m1 : Row W ma (ms.flatMap Mk.cells)) (m2 : Row W mb (ms.flatMap Mk.cells)) (g1 : Row W ga (gs.flatMap Td.cells)) (g2 : Row W gb (gs.flatMap Td.cells))
  (r1 : ∀ y ∈ l1, PtRd W y) (r2 : ∀ y ∈ l2, PtRd W y) (hlen : l1.length ≤ 1000000000000) (hml : ms.length ≤ 1000000000000) (hgl : gs.length ≤ 1000000000000) (he : l1.map PtR.pl = l2.map PtR.pl) :
  Calls Try.prog 13 #[.agg #[.slice pa l1.length ca, .slice ma ms.length da, .slice ga gs.length ea], .agg #[.slice pb l2.length cb, .slice mb ms.length db, .slice gb gs.length eb]] W fun e w' => e = .returned (.bool true) ∧ Below W.heap.size W w' := by
 obtain ⟨W2, hW2, hx, hy, hb2⟩ := un_boxes W (.slice pa l1.length ca) (.slice ma ms.length da) (.slice ga gs.length ea) (.slice pb l2.length cb) (.slice mb ms.length db) (.slice gb gs.length eb)
 have HE := hid hW2
 have HSP : Hid (Calls Try.prog 27 #[.slice pa l1.length ca, .slice pb l2.length cb] W2 fun e w' => e = .returned (.bool true) ∧ Below W2.heap.size W2 w') := samepts_any pa pb ca cb l1 l2 (h1.below hb2) (h2.below hb2) (fun y hy => (r1 y hy).below hb2) (fun y hy => (r2 y hy).below hb2) hlen he
 have HB := hid hb2
 have hq0 : Below W2.heap.size W2 W2 := Below.refl _ _
 obtain ⟨n, hn⟩ : ∃ n, n = ms.length := ⟨_, rfl⟩
 obtain ⟨q, hq⟩ : ∃ q, q = gs.length := ⟨_, rfl⟩
 have HM := hid (And.intro (m1.below hb2) (m2.below hb2))
 have HG := hid (And.intro (g1.below hb2) (g2.below hb2))
 rw [← hn] at hml hx hy HE
 rw [← hq] at hgl hx hy HE
 rw [← hn, ← hq]
 have HN := hid hn
 have HQ := hid hq
 generalize l1.length = n1 at *
 generalize l2.length = n2 at *
 have c0 := fun (w' : World) (hw : Below W2.heap.size W2 w') => cell_of_row _ _ 0 _ _ _ (blk_up hx w' hw)
 have c1 := fun (w' : World) (hw : Below W2.heap.size W2 w') => cell_of_row _ _ 1 _ _ _ (blk_up hx w' hw)
 have c2 := fun (w' : World) (hw : Below W2.heap.size W2 w') => cell_of_row _ _ 2 _ _ _ (blk_up hx w' hw)
 have d0 := fun (w' : World) (hw : Below W2.heap.size W2 w') => cell_of_row _ _ 0 _ _ _ (blk_up hy w' hw)
 have d1 := fun (w' : World) (hw : Below W2.heap.size W2 w') => cell_of_row _ _ 1 _ _ _ (blk_up hy w' hw)
 have d2 := fun (w' : World) (hw : Below W2.heap.size W2 w') => cell_of_row _ _ 2 _ _ _ (blk_up hy w' hw)
 clear hW2 hx hy hb2 h1 h2 m1 m2 g1 g2 r1 r2 hlen he hn hq
 go_enter Try.func13, Try.ntmps13
 go_upto_region 1 with (fail)
 rw [← HE.out]
 go_wp2_with (go_at_call 27; (with_reducible refine HSP.out.mono ?_); rintro e w7 ⟨rfl, hb7⟩; have hq7 : Below W2.heap.size W2 w7 := hb7; clear hb7)
 go_loopw [5] (fun i wr => ∃ (k : Nat), k ≤ n ∧ i = .int .i64 k ∧ Below W2.heap.size W2 wr) (fun i _ => n - (intOf i).toNat)
 case atStart => exact ⟨0, by omega, rfl, by assumption⟩
 case round =>
  rename World => wr
  obtain ⟨k, hk, rfl, hbw⟩ := hrel
  clear hq0 hq7
  have HBW := hid hbw
  by_cases hlt : k < n
  ·have hkI : (k : Int) < n := by omega
   have k1 : k < ms.length := by rw [← HN.out]; exact hlt
   have rA := HM.out.1
   have rB := HM.out.2
   obtain ⟨b1, o1, rfl, hbl1, -⟩ := rA.at (by rw [flat_len Mk.cells 9 (fun _ => rfl)]; omega)
   obtain ⟨b2, o2, rfl, hbl2, -⟩ := rB.at (by rw [flat_len Mk.cells 9 (fun _ => rfl)]; omega)
   have A := fun (w' : World) (hw : Below W2.heap.size W2 w') => mk_cells (rA.below hw) k k1
   have B := fun (w' : World) (hw : Below W2.heap.size W2 w') => mk_cells (rB.below hw) k k1
   clear rA rB
   generalize ms[k] = x at A B
   have hne := run_neq_mk x
   have e0 := fun w' hw => (A w' hw).1
   have e1 := fun w' hw => (A w' hw).2.1
   have e2 := fun w' hw => (A w' hw).2.2.1
   have e3 := fun w' hw => (A w' hw).2.2.2.1
   have e4 := fun w' hw => (A w' hw).2.2.2.2.1
   have e5 := fun w' hw => (A w' hw).2.2.2.2.2.1
   have e6 := fun w' hw => (A w' hw).2.2.2.2.2.2.1
   have e7 := fun w' hw => (A w' hw).2.2.2.2.2.2.2.1
   have e8 := fun w' hw => (A w' hw).2.2.2.2.2.2.2.2
   have f0 := fun w' hw => (B w' hw).1
   have f1 := fun w' hw => (B w' hw).2.1
   have f2 := fun w' hw => (B w' hw).2.2.1
   have f3 := fun w' hw => (B w' hw).2.2.2.1
   have f4 := fun w' hw => (B w' hw).2.2.2.2.1
   have f5 := fun w' hw => (B w' hw).2.2.2.2.2.1
   have f6 := fun w' hw => (B w' hw).2.2.2.2.2.2.1
   have f7 := fun w' hw => (B w' hw).2.2.2.2.2.2.2.1
   have f8 := fun w' hw => (B w' hw).2.2.2.2.2.2.2.2
   clear A B
   go_wp2_with (fail)
   go_upto_region 6 with (fail)
   go_region_held3 (fun w' => Below W2.heap.size W2 w') (first | (with_reducible assumption) | exact hbw.drew) (first | fail)
   go_wp2_with (fail)
   exact ⟨⟨k + 1, by omega, by go_num, HBW.out.drew⟩, by simp [intOf]; omega⟩
  ·have hke : k = n := by omega
   subst hke
   go_wp2_with (fail)
   go_loopw [6] (fun i wr => ∃ (k : Nat), k ≤ q ∧ i = .int .i64 k ∧ Below W2.heap.size W2 wr) (fun i _ => q - (intOf i).toNat)
   case atStart => exact ⟨0, by omega, rfl, by assumption⟩
   case round =>
    rename World => wx
    obtain ⟨j, hj, rfl, hbx⟩ := hrel
    clear hbw
    have HBX := hid hbx
    by_cases hjt : j < q
    ·have hjI : (j : Int) < q := by omega
     have j1 : j < gs.length := by rw [← HQ.out]; exact hjt
     have rA := HG.out.1
     have rB := HG.out.2
     obtain ⟨b1, o1, rfl, hbl1, -⟩ := rA.at (by rw [flat_len Td.cells 3 (fun _ => rfl)]; omega)
     obtain ⟨b2, o2, rfl, hbl2, -⟩ := rB.at (by rw [flat_len Td.cells 3 (fun _ => rfl)]; omega)
     have A := fun (w' : World) (hw : Below W2.heap.size W2 w') => td_cells (rA.below hw) j j1
     have B := fun (w' : World) (hw : Below W2.heap.size W2 w') => td_cells (rB.below hw) j j1
     clear rA rB
     generalize gs[j] = x at A B
     have hne := run_neq_td x
     have e0 := fun w' hw => (A w' hw).1
     have e1 := fun w' hw => (A w' hw).2.1
     have e2 := fun w' hw => (A w' hw).2.2
     have f0 := fun w' hw => (B w' hw).1
     have f1 := fun w' hw => (B w' hw).2.1
     have f2 := fun w' hw => (B w' hw).2.2
     clear A B
     go_wp2_with (fail)
     go_upto_region 11 with (fail)
     go_region_held3 (fun w' => Below W2.heap.size W2 w') (first | (with_reducible assumption) | exact hbx.drew) (first | fail)
     go_wp2_with (fail)
     exact ⟨⟨j + 1, by omega, by go_num, HBX.out.drew⟩, by simp [intOf]; omega⟩
    ·have hje : j = q := by omega
     subst hje
     go_wp2_with (fail)
     go_ret
     exact ⟨rfl, HB.out.trans (HBX.out.mono HB.out.size)⟩
end Go.Proofs.Ythlingholhjcnaa
namespace Go.Proofs.Ythlingholhjcnaa
open Go.RowKit
variable {W W' w w' : World}
set_option maxRecDepth 20000 in
theorem run_neq_ft (a : Ft) (w : World) : (binOp .neq 42 (.agg #[.int .i64 a.file, .int .i64 a.line, .int .i64 a.err]) (.agg #[.int .i64 a.file, .int .i64 a.line, .int .i64 a.err])).run Try.prog w = .ok (.bool false) w := by
 go_simp
set_option maxRecDepth 20000 in
set_option maxHeartbeats 4000000 in
theorem equalF_any (pa pb : Option Addr) (ca cb : Nat) (l : List Ft) (h1 : Row W pa (l.flatMap Ft.cells)) (h2 : Row W pb (l.flatMap Ft.cells)) (hlen : l.length ≤ 1000000000000) :
  Calls Try.prog 14 #[.slice pa l.length ca, .slice pb l.length cb] W fun e w' => e = .returned (.bool true) ∧ Below W.heap.size W w' := by
 have HH := hid (And.intro h1 h2)
 obtain ⟨n, hn⟩ : ∃ n, n = l.length := ⟨_, rfl⟩
 rw [← hn] at hlen ⊢
 have HN := hid hn
 clear h1 h2 hn
 have hb0 : Below W.heap.size W W := Below.refl _ _
 go_enter Try.func14, Try.ntmps14
 go_wp2_with (fail)
 go_loopw [13] (fun i wr => ∃ (k : Nat), k ≤ n ∧ i = .int .i64 k ∧ Below W.heap.size W wr) (fun i _ => n - (intOf i).toNat)
 case atStart => exact ⟨0, by omega, rfl, hb0⟩
 case round =>
  rename World => wr
  obtain ⟨k, hk, rfl, hbw⟩ := hrel
  clear hb0
  have HBW := hid hbw
  by_cases hlt : k < n
  ·have hkI : (k : Int) < n := by omega
   have k1 : k < l.length := by rw [← HN.out]; exact hlt
   have rA := HH.out.1
   have rB := HH.out.2
   obtain ⟨b1, o1, rfl, hbl1, -⟩ := rA.at (by rw [flat_len Ft.cells 3 (fun _ => rfl)]; omega)
   obtain ⟨b2, o2, rfl, hbl2, -⟩ := rB.at (by rw [flat_len Ft.cells 3 (fun _ => rfl)]; omega)
   have A := fun (w' : World) (hw : Below W.heap.size W w') => ft_cells (rA.below hw) k k1
   have B := fun (w' : World) (hw : Below W.heap.size W w') => ft_cells (rB.below hw) k k1
   clear rA rB
   generalize l[k] = x at A B
   have hne := run_neq_ft x
   have e0 := fun w' hw => (A w' hw).1
   have e1 := fun w' hw => (A w' hw).2.1
   have e2 := fun w' hw => (A w' hw).2.2
   have f0 := fun w' hw => (B w' hw).1
   have f1 := fun w' hw => (B w' hw).2.1
   have f2 := fun w' hw => (B w' hw).2.2
   clear A B
   go_wp2_with (fail)
   go_upto_region 6 with (fail)
   go_region_held3 (fun w' => Below W.heap.size W w') (first | (with_reducible assumption) | exact hbw.drew) (first | fail)
   go_wp2_with (fail)
   exact ⟨⟨k + 1, by omega, by go_num, HBW.out.drew⟩, by simp [intOf]; omega⟩
  ·have hke : k = n := by omega
   subst hke
   go_wp2_with (fail)
   go_ret
   exact ⟨rfl, HBW.out⟩
end Go.Proofs.Ythlingholhjcnaa
