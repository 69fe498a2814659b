/-
 The code's maker: stmt: data and names that are told.
 The code's maker: stmt: names that are told; any statement.
 One: what a file's rows come to: the code.
-/
import Derived.Test.YthlingholhjcnaaJJ3
namespace Go.Proofs.Ythlingholhjcnaa
open Go.RowKit
variable {W W' w w' : World} {base m mb : Nat} {X X' : FV} {file line : Int} {name : ByteArray} {nm : List ByteArray}
theorem Below.blk_lt {o : Obj} {b : Nat} (hb : Below W.heap.size W w') (h : W.heap[b]? = some o) : w'.heap[b]? = some o := (hb.block b (Array.getElem?_eq_some_iff.1 h).1).trans h
structure VvBx (bs bv : Nat) (s : StR) (v : Vv) (w' : World) : Prop where
 s : StBx bs s w'
 v : w'.heap[bv]? = some (.cells v.cells.toArray 62 (0, 0))
theorem foldl_take {α β : Type} (f : β → α → β) (b : β) (l : List α) (k : Nat) (hk : k < l.length) : (l.take (k + 1)).foldl f b = f ((l.take k).foldl f b) l[k] := by
 rw [List.take_add_one, List.getElem?_eq_getElem hk, Option.toList_some, List.foldl_append]; rfl
set_option maxRecDepth 20000 in
set_option maxHeartbeats 4000000 in
theorem stmt_data (h : CIs W base m mb X file line name) {n : Nat} (hn : Sm X n) (s : StR) (hn2 : n + s.values.l.length ≤ 4000000) (hs : s.ok W) (hlow : ∀ a, s.values.p = some a → s.values.l ≠ [] → a.block < base) (hk : s.kind = 5) :
  Calls Try.prog 23 #[.pointer (some ⟨m, 0, none⟩), .agg s.cells.toArray] W (StmtT W base m mb file line (X.pl.stmt file line name s) (n + s.values.l.length)) := by
 obtain ⟨W1, hW1⟩ : ∃ W1, StB W W1 s := ⟨_, stb W s⟩
 obtain ⟨y0, y1, y2, y3, y4, y5, y6, y7⟩ := st_cells hW1.blk
 rw [hk] at y1
 replace y6 : W1.cell? ⟨W.heap.size, 6, none⟩ = some (.slice s.values.p s.values.l.length s.values.c) := y6
 have HW := hid hW1
 have HC := hid h
 have h1 := h.below hW1.b
 have H1 := hid h1
 have HV := hid (hs.values.1.below hW1.b)
 have HS1 : Hid (StBx W.heap.size s W1) := hW1.blk
 obtain ⟨R, hR⟩ : ∃ R, R = X.pl.stmt file line name s := ⟨_, rfl⟩
 have HR : Hid (R = (X.pl.data file line name s.size s.values.l, name)) := by unfold Hid; rw [hR]; unfold FP.stmt; rw [if_neg (by omega), if_neg (by omega), if_pos hk]
 have HI0 : Hid (∃ X', CIs W1 base m mb X' file line name ∧ X'.pl = X.pl.data file line name s.size (s.values.l.take 0) ∧ Sm X' (n + 0) ∧ Trn base W1 W1) := ⟨X, h1, rfl, hn, TrnP.refl _ _⟩
 have HPUT : Hid (∀ (w3 : World) (X' : FV) (v : Vv) (k : Nat), CIs w3 base m mb X' file line name → Sm X' (n + k) → k ≤ s.values.l.length →
   Calls Try.prog 38 #[.pointer (some ⟨m, 0, none⟩), .agg #[.int .i64 3, .int .i64 0, .int .i64 0, .string ⟨#[]⟩, .slice none 0 0, .int .i64 v.add, .string v.plus, .string v.minus, .int .i64 s.size, .slice none 0 0, .int .i64 0], .bool (decide (v = v00))] w3
    (PutT w3 base m mb X' file line name (X'.pl.data1 file line name s.size v) (n + k + 1))) := fun w3 X' v k h3 hsm hk =>
  put_any h3 hsm (by omega) ⟨3, 0, 0, ⟨⟨#[]⟩, ⟨none, 0, []⟩⟩, v, s.size, ⟨none, 0, []⟩, 0⟩ (PcOk.nil _ _ _ _ _ _ _ _ _) _
 have hcap := hs.values.1.cap
 have HLOW := hid hlow
 rw [← hR]
 clear h hn hW1 hs h1 hR hk y0 y2 y3 y4 y5 y7 hlow
 obtain ⟨len, hlen⟩ : ∃ len, len = s.values.l.length := ⟨_, rfl⟩
 have HLEN := hid hlen
 rw [← hlen] at y6 hcap hn2 HPUT ⊢
 clear hlen
 go_enter Try.func23, Try.ntmps23
 go_upto_region 1 with (fail)
 rw [← HW.out.eq]
 go_wp2_with (fail)
 go_loopw [46] (fun i wr => ∃ (k : Nat), k ≤ len ∧ i = .int .i64 k ∧ ∃ X', CIs wr base m mb X' file line name ∧ X'.pl = X.pl.data file line name s.size (s.values.l.take k) ∧ Sm X' (n + k) ∧ Trn base W1 wr) (fun i _ => len - (intOf i).toNat)
 case atStart => exact ⟨0, by omega, rfl, HI0.out⟩
 case round =>
  rename World => wr
  obtain ⟨k, hk, rfl, X3, h3, hp3, hs3, ht3⟩ := hrel
  have H3 := hid h3
  have HP3 := hid hp3
  have HS3 := hid hs3
  have HT3 := hid ht3
  clear HI0
  by_cases hlt : k < len
  ·have hkI : (k : Int) < len := by omega
   have hkl : k < s.values.l.length := by rw [← HLEN.out]; exact hlt
   have hrow := HV.out.row
   obtain ⟨b, o, hpe, hbl, -⟩ := hrow.at (by rw [flat_len Vv.cells 3 (fun _ => rfl)]; omega)
   rw [hpe] at hrow
   obtain ⟨v0, v1, v2⟩ := vv_cells hrow k hkl
   have hkeep : wr.heap[b]? = W1.heap[b]? := ht3.1.block b (HLOW.out ⟨b, o, none⟩ hpe (by intro e; rw [e] at hkl; simp at hkl))
   have u0 : wr.cell? ⟨b, o + k * 3, none⟩ = _ := (World.cell?_of_block (a := ⟨b, o + k * 3, none⟩) hkeep).trans v0
   have u1 : wr.cell? ⟨b, o + k * 3 + 1, none⟩ = _ := (World.cell?_of_block (a := ⟨b, o + k * 3 + 1, none⟩) hkeep).trans v1
   have u2 : wr.cell? ⟨b, o + k * 3 + 2, none⟩ = _ := (World.cell?_of_block (a := ⟨b, o + k * 3 + 2, none⟩) hkeep).trans v2
   have HST : Hid (X.pl.data file line name s.size (s.values.l.take (k + 1)) = (X.pl.data file line name s.size (s.values.l.take k)).data1 file line name s.size s.values.l[k]) := foldl_take _ _ _ _ hkl
   generalize s.values.l[k] = v at *
   have hsb : StBx W.heap.size s wr := (ht3.2.tag _ _ (tag_row HS1.out) (by unfold isPT; decide)).trans HS1.out
   obtain ⟨W5, hW5⟩ : ∃ W5, W5 = wr.alloc (.cells #[.int .i64 v.add, .string v.plus, .string v.minus] 62) := ⟨_, rfl⟩
   have hb5 : Below wr.heap.size wr W5 := by rw [hW5]; exact alloc_below _ _
   have HV5 : Hid (VvBx W.heap.size wr.heap.size s v W5.drew) := ⟨Below.blk_lt hb5.drew hsb, by rw [hW5]; exact heap_alloc_new _ _⟩
   have HB5 := hid hb5
   have HW5 := hid hW5
   have HP := hid (HPUT.out W5.drew X3 v k ((h3.below hb5).below (Below.refl _ _).drew) hs3 (by omega))
   rw [hpe] at *
   have a0 : ∀ w' : World, VvBx W.heap.size wr.heap.size s v w' → w'.cell? ⟨wr.heap.size, 0, none⟩ = some (.int .i64 v.add) := fun _ h => cell_of_row _ _ 0 _ _ _ h.v
   have a1 : ∀ w' : World, VvBx W.heap.size wr.heap.size s v w' → w'.cell? ⟨wr.heap.size, 1, none⟩ = some (.string v.plus) := fun _ h => cell_of_row _ _ 1 _ _ _ h.v
   have a2 : ∀ w' : World, VvBx W.heap.size wr.heap.size s v w' → w'.cell? ⟨wr.heap.size, 2, none⟩ = some (.string v.minus) := fun _ h => cell_of_row _ _ 2 _ _ _ h.v
   have a5 : ∀ w' : World, VvBx W.heap.size wr.heap.size s v w' → w'.cell? ⟨W.heap.size, 5, none⟩ = some (.int .i64 s.size) := fun _ h => (st_cells h.s).2.2.2.2.2.1
   have heq : ∀ w1 : World, (binOp .eql 62 (.agg #[.int .i64 v.add, .string v.plus, .string v.minus]) (.agg #[.int .i64 0, .string ⟨#[]⟩, .string ⟨#[]⟩])).run Try.prog w1 = .ok (.bool (decide (v = v00))) w1 := fun w1 => run_eql_vv v v00 w1
   clear h3 hp3 hs3 ht3 hrow v0 v1 v2 hkeep hsb hW5 hb5 hkl hpe
   generalize hdd : decide (v = v00) = dd at *
   clear hdd
   go_upto_region 14 with (fail)
   rw [← HW5.out]
   refine wp_region_held_drew (S := VvBx W.heap.size wr.heap.size s v) (by kernel_rfl) HV5.out (fun hHeld => ?_)
   refine wpAnyH_take (i := 0) (oi := { dst := some 50, op := Op.move (Operand.tmp 0), type := 75, pos := "frag.go:109", after := #[], guard := none }) (v := ?pav0) rfl (by kernel_rfl) (by kernel_rfl) (by kernel_rfl) (fun _ _ _ h => h) (Or.inl ⟨by rfl, ?pah0⟩) (by assumption) ?par0
   case pah0 => ((intro w hSw; (try dsimp only at hSw); go_simp); try with_reducible rfl)
   try simp only [Act.put, List.setIfInBounds_toArray, List.set_cons_zero, List.set_cons_succ]
   refine wpAnyH_take (i := 1) (oi := { dst := some 51, op := Op.load 62 (Operand.tmp 9), type := 62, pos := "frag.go:109", after := #[], guard := none }) (v := ?pav1) rfl (by kernel_rfl) (by kernel_rfl) (by kernel_rfl) (fun _ _ _ h => h) (Or.inl ⟨by rfl, ?pah1⟩) (by assumption) ?par1
   case pah1 => ((intro w hSw; (try dsimp only at hSw); go_simp); try with_reducible rfl)
   try simp only [Act.put, List.setIfInBounds_toArray, List.set_cons_zero, List.set_cons_succ]
   refine wpAnyH_take (i := 2) (oi := { dst := some 52, op := Op.fieldAddr 57 (Operand.tmp 3) 4, type := 0, pos := "frag.go:109", after := #[], guard := none }) (v := ?pav2) rfl (by kernel_rfl) (by kernel_rfl) (by kernel_rfl) (fun _ _ _ h => h) (Or.inl ⟨by rfl, ?pah2⟩) (by assumption) ?par2
   case pah2 => ((intro w hSw; (try dsimp only at hSw); go_simp); try with_reducible rfl)
   try simp only [Act.put, List.setIfInBounds_toArray, List.set_cons_zero, List.set_cons_succ]
   refine wpAnyH_take (i := 3) (oi := { dst := some 53, op := Op.load 3 (Operand.tmp 52), type := 3, pos := "frag.go:109", after := #[{ on := 2, ground := Ground.data }], guard := none }) (v := ?pav3) rfl (by kernel_rfl) (by kernel_rfl) (by kernel_rfl) (fun _ _ _ h => h) (Or.inl ⟨by rfl, ?pah3⟩) (by assumption) ?par3
   case pah3 => ((intro w hSw; (try dsimp only at hSw); go_simp); try with_reducible rfl)
   try simp only [Act.put, List.setIfInBounds_toArray, List.set_cons_zero, List.set_cons_succ]
   refine wpAnyH_take (i := 4) (oi := { dst := some 54, op := Op.build 64 #[(0, Operand.const (Value.int IntKind.i64 3)), (4, Operand.tmp 51), (5, Operand.tmp 53)], type := 64, pos := "frag.go:109", after := #[{ on := 1, ground := Ground.data }, { on := 3, ground := Ground.data }], guard := none }) (v := ?pav4) rfl (by kernel_rfl) (by kernel_rfl) (by kernel_rfl) (fun _ _ _ h => h) (Or.inl ⟨by rfl, ?pah4⟩) (by assumption) ?par4
   case pah4 => ((intro w hSw; (try dsimp only at hSw); go_simp); try with_reducible rfl)
   try simp only [Act.put, List.setIfInBounds_toArray, List.set_cons_zero, List.set_cons_succ]
   refine wpAnyH_take (i := 5) (oi := { dst := some 55, op := Op.load 62 (Operand.tmp 9), type := 62, pos := "frag.go:109", after := #[], guard := none }) (v := ?pav5) rfl (by kernel_rfl) (by kernel_rfl) (by kernel_rfl) (fun _ _ _ h => h) (Or.inl ⟨by rfl, ?pah5⟩) (by assumption) ?par5
   case pah5 => ((intro w hSw; (try dsimp only at hSw); go_simp); try with_reducible rfl)
   try simp only [Act.put, List.setIfInBounds_toArray, List.set_cons_zero, List.set_cons_succ]
   refine wpAnyH_take (i := 6) (oi := { dst := some 56, op := Op.build 62 #[], type := 62, pos := "frag.go:109", after := #[], guard := none }) (v := ?pav6) rfl (by kernel_rfl) (by kernel_rfl) (by kernel_rfl) (fun _ _ _ h => h) (Or.inl ⟨by rfl, ?pah6⟩) (by assumption) ?par6
   case pah6 => ((intro w hSw; (try dsimp only at hSw); go_simp); try with_reducible rfl)
   try simp only [Act.put, List.setIfInBounds_toArray, List.set_cons_zero, List.set_cons_succ]
   refine wpAnyH_take (i := 7) (oi := { dst := some 57, op := Op.binOp BinOp.eql 62 (Operand.tmp 55) (Operand.tmp 56) 62, type := 4, pos := "frag.go:109", after := #[{ on := 5, ground := Ground.data }, { on := 6, ground := Ground.data }], guard := none }) (v := ?pav7) rfl (by kernel_rfl) (by kernel_rfl) (by kernel_rfl) (fun _ _ _ h => h) (Or.inl ⟨by rfl, ?pah7⟩) (by assumption) ?par7
   case pah7 => ((intro w hSw; (try dsimp only at hSw); go_simp); try with_reducible rfl)
   try simp only [Act.put, List.setIfInBounds_toArray, List.set_cons_zero, List.set_cons_succ]
   refine wpAnyH_ready (rs := [8]) (by kernel_rfl) (by simp) ?_
   refine AllReadyH.cons (o := { dst := some 58, op := Op.call { callee := Callee.value (Operand.func 38), args := #[Operand.tmp 50, Operand.tmp 54, Operand.tmp 57], argTypes := #[75, 64, 4] }, type := 0, pos := "frag.go:109", after := #[{ on := 0, ground := Ground.data }, { on := 4, ground := Ground.data }, { on := 7, ground := Ground.data }], guard := none }) rfl (fun K hK => ?_) AllReadyH.nil
   go_simp; go_at_call 38; (with_reducible refine HP.out.mono ?_); rintro e w6 ⟨rfl, ht6, X6, h6, hp6, hs6⟩; have H6 := hid (And.intro ht6 (And.intro h6 (And.intro hp6 hs6))); have HV6 : Hid (VvBx W.heap.size wr.heap.size s v w6) := ⟨(ht6.2.tag _ _ (tag_row HV5.out.s) (by unfold isPT; decide)).trans HV5.out.s, (ht6.2.tag _ _ (tag_row HV5.out.v) (by unfold isPT; decide)).trans HV5.out.v⟩; clear ht6 h6 hp6 hs6; refine hK.out _ _ HV6.out (fun hHeld => ?_)
   clear hK K
   try simp only [Act.put, List.setIfInBounds_toArray, List.set_cons_zero, List.set_cons_succ]
   refine wpAnyH_done (by kernel_rfl) ?_ _
   go_wp2_with fail
   exact ⟨⟨k + 1, by omega, by go_num, _, H6.out.2.1, by rw [H6.out.2.2.1, HST.out, HP3.out], H6.out.2.2.2, (HT3.out.trans (TrnP.below (HB5.out.drew) H3.out.hz)).trans H6.out.1⟩, by simp [intOf]; omega⟩
  ·have hke : k = len := by omega
   subst hke
   go_wp2_with fail
   go_end0
   refine ⟨rfl, (TrnP.below HW.out.b HC.out.hz).trans HT3.out, X3, by rw [HR.out]; exact H3.out, ?_, HS3.out⟩
   rw [HR.out, HP3.out, HLEN.out, List.take_length]
end Go.Proofs.Ythlingholhjcnaa
namespace Go.Proofs.Ythlingholhjcnaa
open Go.RowKit
variable {W W' w w' : World} {base m mb : Nat} {X X' : FV} {file line : Int} {name : ByteArray} {nm : List ByteArray}
set_option maxRecDepth 20000 in
set_option maxHeartbeats 4000000 in
theorem stmt_global (h : CIs W base m mb X file line name) {n : Nat} (hn : Sm X n) (s : StR) (hn2 : n + s.names.l.length ≤ 4000000) (hs : s.ok W) (hlow : ∀ a, s.names.p = some a → s.names.l ≠ [] → a.block < base) (hk : s.kind = 3) :
  Calls Try.prog 23 #[.pointer (some ⟨m, 0, none⟩), .agg s.cells.toArray] W (StmtT W base m mb file line (X.pl.stmt file line name s) (n + s.names.l.length)) := by
 obtain ⟨W1, hW1⟩ : ∃ W1, StB W W1 s := ⟨_, stb W s⟩
 obtain ⟨y0, y1, y2, y3, y4, y5, y6, y7⟩ := st_cells hW1.blk
 rw [hk] at y1
 replace y4 : W1.cell? ⟨W.heap.size, 4, none⟩ = some (.slice s.names.p s.names.l.length s.names.c) := y4
 have HW := hid hW1
 have HC := hid h
 have h1 := h.below hW1.b
 have H1 := hid h1
 have HV := hid (hs.names.1.below hW1.b)
 obtain ⟨R, hR⟩ : ∃ R, R = X.pl.stmt file line name s := ⟨_, rfl⟩
 have HR : Hid (R = (X.pl.told file line s.names.l, name)) := by unfold Hid; rw [hR]; unfold FP.stmt; rw [if_neg (by omega), if_neg (by omega), if_neg (by omega), if_neg (by omega), if_neg (by omega), if_neg (by omega), if_pos hk]
 have HI0 : Hid (∃ X', CIs W1 base m mb X' file line name ∧ X'.pl = X.pl.told file line (s.names.l.take 0) ∧ Sm X' (n + 0) ∧ Trn base W1 W1) := ⟨X, h1, rfl, hn, TrnP.refl _ _⟩
 have hcap := hs.names.1.cap
 have HLOW := hid hlow
 rw [← hR]
 clear h hn hW1 hs h1 hR hk y0 y2 y3 y5 y6 y7 hlow
 obtain ⟨len, hlen⟩ : ∃ len, len = s.names.l.length := ⟨_, rfl⟩
 have HLEN := hid hlen
 rw [← hlen] at y4 hcap hn2 ⊢
 clear hlen
 go_enter Try.func23, Try.ntmps23
 go_upto_region 1 with (fail)
 rw [← HW.out.eq]
 go_wp2_with (fail)
 go_loopw [104] (fun i wr => ∃ (k : Nat), k ≤ len ∧ i = .int .i64 k ∧ ∃ X', CIs wr base m mb X' file line name ∧ X'.pl = X.pl.told file line (s.names.l.take k) ∧ Sm X' (n + k) ∧ Trn base W1 wr) (fun i _ => len - (intOf i).toNat)
 case atStart => exact ⟨0, by omega, rfl, HI0.out⟩
 case round =>
  rename World => wr
  obtain ⟨k, hk, rfl, X3, h3, hp3, hs3, ht3⟩ := hrel
  have H3 := hid h3
  have HP3 := hid hp3
  have HS3 := hid hs3
  have HT3 := hid ht3
  clear HI0
  by_cases hlt : k < len
  ·have hkI : (k : Int) < len := by omega
   have hkl : k < s.names.l.length := by rw [← HLEN.out]; exact hlt
   have hrow := HV.out.row
   rw [← map_flat1] at hrow
   obtain ⟨b, o, hpe, hbl, hc⟩ := hrow.at (by simpa using (by omega : 0 < s.names.l.length))
   have v0 := hc k (by simpa using hkl)
   simp only [List.getElem_map] at v0
   have hkeep : wr.heap[b]? = W1.heap[b]? := ht3.1.block b (HLOW.out ⟨b, o, none⟩ hpe (by intro e; rw [e] at hkl; simp at hkl))
   have u0 : wr.cell? ⟨b, o + k, none⟩ = _ := (World.cell?_of_block (a := ⟨b, o + k, none⟩) hkeep).trans v0
   have HST : Hid (X.pl.told file line (s.names.l.take (k + 1)) = (X.pl.told file line (s.names.l.take k)).told1 file line s.names.l[k]) := foldl_take _ _ _ _ hkl
   generalize s.names.l[k] = v at *
   have HF := hid (fails_any h3 (Nat.le_trans hs3.fs (by omega)) 3)
   obtain ⟨c0, c1, c2, c3, c4, hfl⟩ := h3.cells
   rw [hpe] at *
   by_cases hlong : 255 < v.size
   ·have hlI : (255 : Int) < (v.size : Int) := by omega
    clear h3 hp3 hs3 ht3 hrow v0 hc hkeep hkl hpe c0 c1 c2 c3 c4 hfl
    go_wp2_with (go_at_call 36; (with_reducible refine HF.out.mono ?_); rintro e w6 ⟨rfl, ⟨v', h6⟩, ht6⟩; have H6 := hid (And.intro h6 ht6); clear h6 ht6)
    refine ⟨⟨k + 1, by omega, by go_num, _, H6.out.1, ?_, ?_, HT3.out.trans H6.out.2⟩, by simp [intOf]; omega⟩
    ·rw [HST.out, ← HP3.out]; unfold FP.told1; rw [if_pos hlong]; rfl
    ·have q := HS3.out
     exact ⟨Nat.le_succ_of_le q.ps, Nat.le_succ_of_le q.ms, Nat.le_succ_of_le q.gs, by show (X3.fs ++ [_]).length ≤ _; rw [List.length_append]; have := q.fs; simp; omega, fun y hy => Nat.le_succ_of_le (q.pcs y hy)⟩
   ·have hlI : ¬ (255 : Int) < (v.size : Int) := by omega
    have HLG := hid hlong
    obtain ⟨pv, cv, hvc, -⟩ := own_shape h3.is.globals
    rw [hvc] at c2
    have hz3 := h3.hz
    have hml : m < wr.heap.size := h3.lt
    have hgl : X3.gs.length ≤ n + k := hs3.gs
    have HP7 : Hid (wr.ownsRow base 90 3 (.slice pv X3.gs.length cv) X3.gs.length (X3.gs.flatMap Td.cells)) := by have := h3.is.globals; rw [hvc] at this; exact this
    have HVC : Hid (X3.gv.ownBlock = (Value.slice pv X3.gs.length cv).ownBlock) := by unfold Hid; rw [hvc]
    have HSL : Hid (∀ o : Obj, FL m 5 file line name (wr.alloc o).drew) := fun o => (hfl.blk (Below.heap_alloc wr o m hml)).drew
    have HH0 : Hid (FL m 5 file line name wr.drew) := hfl.drew
    have c2L : ∀ o : Obj, (wr.alloc o).cell? ⟨m, 2, none⟩ = some (.slice pv X3.gs.length cv) := fun o => (World.cell?_of_block (a := ⟨m, 2, none⟩) (Below.heap_alloc wr o m hml)).trans c2
    have a5 : ∀ w' : World, FL m 5 file line name w' → w'.cell? ⟨m, 5, none⟩ = some (.int .i64 file) := fun _ h => h.f
    have a6 : ∀ w' : World, FL m 5 file line name w' → w'.cell? ⟨m, 6, none⟩ = some (.int .i64 line) := fun _ h => h.l
    clear h3 hp3 hs3 ht3 hrow v0 hc hkeep hkl hpe c0 c1 c3 c4 hfl hvc hlong
    obtain ⟨gl, hgn⟩ : ∃ gl, gl = X3.gs.length := ⟨_, rfl⟩
    have HGN := hid hgn
    rw [← hgn] at HP7 HVC c2 c2L hgl
    clear hgn
    go_upto_region 32 with (fail)
    refine wp_region_held_drew (S := FL m 5 file line name) (by kernel_rfl) HH0.out (fun hHeld => ?_)
    refine wpAnyH_take (i := 0) (oi := { dst := some 113, op := Op.move (Operand.tmp 0), type := 75, pos := "frag.go:129", after := #[], guard := none }) (v := ?pbv0) rfl (by kernel_rfl) (by kernel_rfl) (by kernel_rfl) (fun _ _ _ h => h) (Or.inl ⟨by rfl, ?pbh0⟩) (by assumption) ?pbr0
    case pbh0 => ((intro w hSw; (try dsimp only at hSw); go_simp); try with_reducible rfl)
    try simp only [Act.put, List.setIfInBounds_toArray, List.set_cons_zero, List.set_cons_succ]
    refine wpAnyH_take (i := 1) (oi := { dst := some 114, op := Op.move (Operand.tmp 0), type := 75, pos := "frag.go:129", after := #[], guard := none }) (v := ?pbv1) rfl (by kernel_rfl) (by kernel_rfl) (by kernel_rfl) (fun _ _ _ h => h) (Or.inl ⟨by rfl, ?pbh1⟩) (by assumption) ?pbr1
    case pbh1 => ((intro w hSw; (try dsimp only at hSw); go_simp); try with_reducible rfl)
    try simp only [Act.put, List.setIfInBounds_toArray, List.set_cons_zero, List.set_cons_succ]
    refine wpAnyH_take (i := 2) (oi := { dst := some 115, op := Op.nilCheck (Operand.tmp 114), type := 0, pos := "frag.go:129", after := #[{ on := 1, ground := Ground.data }], guard := none }) (v := ?pbv2) rfl (by kernel_rfl) (by kernel_rfl) (by kernel_rfl) (fun _ _ _ h => h) (Or.inl ⟨by rfl, ?pbh2⟩) (by assumption) ?pbr2
    case pbh2 => ((intro w hSw; (try dsimp only at hSw); go_simp); try with_reducible rfl)
    try simp only [Act.put, List.setIfInBounds_toArray, List.set_cons_zero, List.set_cons_succ]
    refine wpAnyH_take (i := 3) (oi := { dst := some 116, op := Op.fieldAddr 78 (Operand.tmp 115) 0, type := 0, pos := "frag.go:129", after := #[{ on := 2, ground := Ground.data }], guard := none }) (v := ?pbv3) rfl (by kernel_rfl) (by kernel_rfl) (by kernel_rfl) (fun _ _ _ h => h) (Or.inl ⟨by rfl, ?pbh3⟩) (by assumption) ?pbr3
    case pbh3 => ((intro w hSw; (try dsimp only at hSw); go_simp); try with_reducible rfl)
    try simp only [Act.put, List.setIfInBounds_toArray, List.set_cons_zero, List.set_cons_succ]
    refine wpAnyH_take (i := 4) (oi := { dst := some 117, op := Op.fieldAddr 32 (Operand.tmp 116) 2, type := 0, pos := "frag.go:129", after := #[{ on := 3, ground := Ground.data }], guard := none }) (v := ?pbv4) rfl (by kernel_rfl) (by kernel_rfl) (by kernel_rfl) (fun _ _ _ h => h) (Or.inl ⟨by rfl, ?pbh4⟩) (by assumption) ?pbr4
    case pbh4 => ((intro w hSw; (try dsimp only at hSw); go_simp); try with_reducible rfl)
    try simp only [Act.put, List.setIfInBounds_toArray, List.set_cons_zero, List.set_cons_succ]
    refine wpAnyH_take (i := 6) (oi := { dst := some 119, op := Op.move (Operand.tmp 12), type := 9, pos := "frag.go:129", after := #[], guard := none }) (v := ?pbv6) rfl (by kernel_rfl) (by kernel_rfl) (by kernel_rfl) (fun _ _ _ h => h) (Or.inl ⟨by rfl, ?pbh6⟩) (by assumption) ?pbr6
    case pbh6 => ((intro w hSw; (try dsimp only at hSw); go_simp); try with_reducible rfl)
    try simp only [Act.put, List.setIfInBounds_toArray, List.set_cons_zero, List.set_cons_succ]
    refine wpAnyH_take (i := 7) (oi := { dst := some 120, op := Op.move (Operand.tmp 0), type := 75, pos := "frag.go:129", after := #[], guard := none }) (v := ?pbv7) rfl (by kernel_rfl) (by kernel_rfl) (by kernel_rfl) (fun _ _ _ h => h) (Or.inl ⟨by rfl, ?pbh7⟩) (by assumption) ?pbr7
    case pbh7 => ((intro w hSw; (try dsimp only at hSw); go_simp); try with_reducible rfl)
    try simp only [Act.put, List.setIfInBounds_toArray, List.set_cons_zero, List.set_cons_succ]
    refine wpAnyH_take (i := 8) (oi := { dst := some 121, op := Op.nilCheck (Operand.tmp 120), type := 0, pos := "frag.go:129", after := #[{ on := 7, ground := Ground.data }], guard := none }) (v := ?pbv8) rfl (by kernel_rfl) (by kernel_rfl) (by kernel_rfl) (fun _ _ _ h => h) (Or.inl ⟨by rfl, ?pbh8⟩) (by assumption) ?pbr8
    case pbh8 => ((intro w hSw; (try dsimp only at hSw); go_simp); try with_reducible rfl)
    try simp only [Act.put, List.setIfInBounds_toArray, List.set_cons_zero, List.set_cons_succ]
    refine wpAnyH_take (i := 9) (oi := { dst := some 122, op := Op.fieldAddr 78 (Operand.tmp 121) 3, type := 0, pos := "frag.go:129", after := #[{ on := 8, ground := Ground.data }], guard := none }) (v := ?pbv9) rfl (by kernel_rfl) (by kernel_rfl) (by kernel_rfl) (fun _ _ _ h => h) (Or.inl ⟨by rfl, ?pbh9⟩) (by assumption) ?pbr9
    case pbh9 => ((intro w hSw; (try dsimp only at hSw); go_simp); try with_reducible rfl)
    try simp only [Act.put, List.setIfInBounds_toArray, List.set_cons_zero, List.set_cons_succ]
    refine wpAnyH_take (i := 10) (oi := { dst := some 123, op := Op.load 3 (Operand.tmp 122), type := 3, pos := "frag.go:129", after := #[{ on := 9, ground := Ground.data }], guard := none }) (v := ?pbv10) rfl (by kernel_rfl) (by kernel_rfl) (by kernel_rfl) (fun _ _ _ h => h) (Or.inl ⟨by rfl, ?pbh10⟩) (by assumption) ?pbr10
    case pbh10 => ((intro w hSw; (try dsimp only at hSw); go_simp); try with_reducible rfl)
    try simp only [Act.put, List.setIfInBounds_toArray, List.set_cons_zero, List.set_cons_succ]
    refine wpAnyH_take (i := 11) (oi := { dst := some 124, op := Op.move (Operand.tmp 0), type := 75, pos := "frag.go:129", after := #[], guard := none }) (v := ?pbv11) rfl (by kernel_rfl) (by kernel_rfl) (by kernel_rfl) (fun _ _ _ h => h) (Or.inl ⟨by rfl, ?pbh11⟩) (by assumption) ?pbr11
    case pbh11 => ((intro w hSw; (try dsimp only at hSw); go_simp); try with_reducible rfl)
    try simp only [Act.put, List.setIfInBounds_toArray, List.set_cons_zero, List.set_cons_succ]
    refine wpAnyH_take (i := 12) (oi := { dst := some 125, op := Op.nilCheck (Operand.tmp 124), type := 0, pos := "frag.go:129", after := #[{ on := 11, ground := Ground.data }], guard := none }) (v := ?pbv12) rfl (by kernel_rfl) (by kernel_rfl) (by kernel_rfl) (fun _ _ _ h => h) (Or.inl ⟨by rfl, ?pbh12⟩) (by assumption) ?pbr12
    case pbh12 => ((intro w hSw; (try dsimp only at hSw); go_simp); try with_reducible rfl)
    try simp only [Act.put, List.setIfInBounds_toArray, List.set_cons_zero, List.set_cons_succ]
    refine wpAnyH_take (i := 13) (oi := { dst := some 126, op := Op.fieldAddr 78 (Operand.tmp 125) 4, type := 0, pos := "frag.go:129", after := #[{ on := 12, ground := Ground.data }], guard := none }) (v := ?pbv13) rfl (by kernel_rfl) (by kernel_rfl) (by kernel_rfl) (fun _ _ _ h => h) (Or.inl ⟨by rfl, ?pbh13⟩) (by assumption) ?pbr13
    case pbh13 => ((intro w hSw; (try dsimp only at hSw); go_simp); try with_reducible rfl)
    try simp only [Act.put, List.setIfInBounds_toArray, List.set_cons_zero, List.set_cons_succ]
    refine wpAnyH_take (i := 14) (oi := { dst := some 127, op := Op.load 3 (Operand.tmp 126), type := 3, pos := "frag.go:129", after := #[{ on := 13, ground := Ground.data }], guard := none }) (v := ?pbv14) rfl (by kernel_rfl) (by kernel_rfl) (by kernel_rfl) (fun _ _ _ h => h) (Or.inl ⟨by rfl, ?pbh14⟩) (by assumption) ?pbr14
    case pbh14 => ((intro w hSw; (try dsimp only at hSw); go_simp); try with_reducible rfl)
    try simp only [Act.put, List.setIfInBounds_toArray, List.set_cons_zero, List.set_cons_succ]
    refine wpAnyH_take (i := 15) (oi := { dst := some 128, op := Op.build 90 #[(0, Operand.tmp 119), (1, Operand.tmp 123), (2, Operand.tmp 127)], type := 90, pos := "frag.go:129", after := #[{ on := 6, ground := Ground.data }, { on := 10, ground := Ground.data }, { on := 14, ground := Ground.data }], guard := none }) (v := ?pbv15) rfl (by kernel_rfl) (by kernel_rfl) (by kernel_rfl) (fun _ _ _ h => h) (Or.inl ⟨by rfl, ?pbh15⟩) (by assumption) ?pbr15
    case pbh15 => ((intro w hSw; (try dsimp only at hSw); go_simp); try with_reducible rfl)
    try simp only [Act.put, List.setIfInBounds_toArray, List.set_cons_zero, List.set_cons_succ]
    refine wpAnyH_ready (rs := [5, 16]) (by kernel_rfl) (by simp) ?_
    refine AllReadyH.cons (o := { dst := some 118, op := Op.load 30 (Operand.tmp 117), type := 30, pos := "frag.go:129", after := #[{ on := 4, ground := Ground.data }], guard := none }) rfl (fun K hK => ?_) ?_
    ·go_simp; refine hK.out _ _ (by first | exact HH0.out | exact HSL.out _) (fun hHeld => ?_)
     clear hK K
     try simp only [Act.put, List.setIfInBounds_toArray, List.set_cons_zero, List.set_cons_succ]
     refine wpAnyH_ready (rs := [16]) (by kernel_rfl) (by simp) ?_
     refine AllReadyH.cons (o := { dst := some 129, op := Op.buildSlice 30 1 #[(0, Operand.tmp 128)], type := 30, pos := "frag.go:129", after := #[{ on := 15, ground := Ground.data }], guard := none }) rfl (fun K hK => ?_) AllReadyH.nil
     go_simp; refine hK.out _ _ (HSL.out _) (fun hHeld => ?_)
     clear hK K
     try simp only [Act.put, List.setIfInBounds_toArray, List.set_cons_zero, List.set_cons_succ]
     refine wpAnyH_ready (rs := [17]) (by kernel_rfl) (by simp) ?_
     refine AllReadyH.cons (o := { dst := some 130, op := Op.call { callee := Callee.builtin Builtin.append, args := #[Operand.tmp 118, Operand.tmp 129], argTypes := #[30, 30] }, type := 30, pos := "frag.go:129", after := #[{ on := 5, ground := Ground.data }, { on := 16, ground := Ground.data }], guard := none }) rfl (fun K hK => ?_) AllReadyH.nil
     (refine step_app ETold rfl (.tmp 118) (.tmp 129) rfl base (.slice pv gl cv) gl (X3.gs.flatMap Td.cells) rfl (HP7.out.alloc _) _ 1 1 (Td.cells ⟨v, file, line⟩) rfl rfl (row_newAt _ _ _ _ rfl) (td_ones _) (by unfold maxLen; omega) (by omega) (by simp; omega) ?_); intro vp' w8 ho8 hg8 hs8; obtain ⟨p8, c8, rfl, -⟩ := own_shape ho8; have HO8 := hid ho8; have HG8 := hid hg8; clear ho8 hg8 hs8; obtain ⟨hh8, ha8⟩ := H3.out.appTold (by rw [HVC.out]; exact HG8.out); have HA8 := hid ha8; have zf2 := frozen_of_row _ _ 2 _ _ hh8; have z2 := cell_of_row _ _ 2 _ _ _ hh8; clear hh8 ha8; refine hK.out _ _ HA8.out (fun hHeld => ?_)
     clear hK K
     try simp only [Act.put, List.setIfInBounds_toArray, List.set_cons_zero, List.set_cons_succ]
     refine wpAnyH_take (i := 18) (oi := { dst := some 131, op := Op.nilCheck (Operand.tmp 113), type := 0, pos := "frag.go:129", after := #[{ on := 0, ground := Ground.data }, { on := 0, ground := Ground.phase }, { on := 1, ground := Ground.phase }, { on := 2, ground := Ground.phase }, { on := 3, ground := Ground.phase }, { on := 4, ground := Ground.phase }, { on := 5, ground := Ground.phase }, { on := 6, ground := Ground.phase }, { on := 7, ground := Ground.phase }, { on := 8, ground := Ground.phase }, { on := 9, ground := Ground.phase }, { on := 10, ground := Ground.phase }, { on := 11, ground := Ground.phase }, { on := 12, ground := Ground.phase }, { on := 13, ground := Ground.phase }, { on := 14, ground := Ground.phase }, { on := 15, ground := Ground.phase }, { on := 16, ground := Ground.phase }, { on := 17, ground := Ground.phase }], guard := none }) (v := ?pbav18) rfl (by kernel_rfl) (by kernel_rfl) (by kernel_rfl) (fun _ _ _ h => h) (Or.inl ⟨by rfl, ?pbah18⟩) (by assumption) ?pbar18
     case pbah18 => ((intro w hSw; (try dsimp only at hSw); go_simp); try with_reducible rfl)
     try simp only [Act.put, List.setIfInBounds_toArray, List.set_cons_zero, List.set_cons_succ]
     refine wpAnyH_take (i := 19) (oi := { dst := some 132, op := Op.fieldAddr 78 (Operand.tmp 131) 0, type := 0, pos := "frag.go:129", after := #[{ on := 18, ground := Ground.data }, { on := 0, ground := Ground.phase }, { on := 1, ground := Ground.phase }, { on := 2, ground := Ground.phase }, { on := 3, ground := Ground.phase }, { on := 4, ground := Ground.phase }, { on := 5, ground := Ground.phase }, { on := 6, ground := Ground.phase }, { on := 7, ground := Ground.phase }, { on := 8, ground := Ground.phase }, { on := 9, ground := Ground.phase }, { on := 10, ground := Ground.phase }, { on := 11, ground := Ground.phase }, { on := 12, ground := Ground.phase }, { on := 13, ground := Ground.phase }, { on := 14, ground := Ground.phase }, { on := 15, ground := Ground.phase }, { on := 16, ground := Ground.phase }, { on := 17, ground := Ground.phase }], guard := none }) (v := ?pbav19) rfl (by kernel_rfl) (by kernel_rfl) (by kernel_rfl) (fun _ _ _ h => h) (Or.inl ⟨by rfl, ?pbah19⟩) (by assumption) ?pbar19
     case pbah19 => ((intro w hSw; (try dsimp only at hSw); go_simp); try with_reducible rfl)
     try simp only [Act.put, List.setIfInBounds_toArray, List.set_cons_zero, List.set_cons_succ]
     refine wpAnyH_take (i := 20) (oi := { dst := some 133, op := Op.fieldAddr 32 (Operand.tmp 132) 2, type := 0, pos := "frag.go:129", after := #[{ on := 19, ground := Ground.data }, { on := 0, ground := Ground.phase }, { on := 1, ground := Ground.phase }, { on := 2, ground := Ground.phase }, { on := 3, ground := Ground.phase }, { on := 4, ground := Ground.phase }, { on := 5, ground := Ground.phase }, { on := 6, ground := Ground.phase }, { on := 7, ground := Ground.phase }, { on := 8, ground := Ground.phase }, { on := 9, ground := Ground.phase }, { on := 10, ground := Ground.phase }, { on := 11, ground := Ground.phase }, { on := 12, ground := Ground.phase }, { on := 13, ground := Ground.phase }, { on := 14, ground := Ground.phase }, { on := 15, ground := Ground.phase }, { on := 16, ground := Ground.phase }, { on := 17, ground := Ground.phase }], guard := none }) (v := ?pbav20) rfl (by kernel_rfl) (by kernel_rfl) (by kernel_rfl) (fun _ _ _ h => h) (Or.inl ⟨by rfl, ?pbah20⟩) (by assumption) ?pbar20
     case pbah20 => ((intro w hSw; (try dsimp only at hSw); go_simp); try with_reducible rfl)
     try simp only [Act.put, List.setIfInBounds_toArray, List.set_cons_zero, List.set_cons_succ]
     refine wpAnyH_ready (rs := [21]) (by kernel_rfl) (by simp) ?_
     refine AllReadyH.cons (o := { dst := none, op := Op.store 30 (Operand.tmp 133) (Operand.tmp 130), type := 0, pos := "frag.go:129", after := #[{ on := 20, ground := Ground.data }, { on := 17, ground := Ground.data }, { on := 17, ground := Ground.chain }, { on := 0, ground := Ground.phase }, { on := 1, ground := Ground.phase }, { on := 2, ground := Ground.phase }, { on := 3, ground := Ground.phase }, { on := 4, ground := Ground.phase }, { on := 5, ground := Ground.phase }, { on := 6, ground := Ground.phase }, { on := 7, ground := Ground.phase }, { on := 8, ground := Ground.phase }, { on := 9, ground := Ground.phase }, { on := 10, ground := Ground.phase }, { on := 11, ground := Ground.phase }, { on := 12, ground := Ground.phase }, { on := 13, ground := Ground.phase }, { on := 14, ground := Ground.phase }, { on := 15, ground := Ground.phase }, { on := 16, ground := Ground.phase }, { on := 17, ground := Ground.phase }], guard := none }) rfl (fun K hK => ?_) AllReadyH.nil
     go_simp; refine hK.out _ _ (HA8.out.set (by decide) _) (fun hHeld => ?_)
     clear hK K
     try simp only [Act.put, List.setIfInBounds_toArray, List.set_cons_zero, List.set_cons_succ]
     refine wpAnyH_done (by kernel_rfl) ?_ _
     go_wp2_with fail
     have hfin := H3.out.finTold ⟨v, file, line⟩ (by rw [← HGN.out]; exact HO8.out) (by rw [HVC.out]; exact HG8.out)
     refine ⟨⟨k + 1, by omega, by go_num, _, hfin.1, by rw [HST.out, ← HP3.out]; unfold FP.told1; rw [if_neg HLG.out]; rfl, ?_, HT3.out.trans hfin.2⟩, by simp [intOf]; omega⟩
     have q := HS3.out
     exact ⟨Nat.le_succ_of_le q.ps, Nat.le_succ_of_le q.ms, by show (X3.gs ++ [_]).length ≤ _; rw [List.length_append, ← HGN.out]; simp; omega, Nat.le_succ_of_le q.fs, fun y hy => Nat.le_succ_of_le (q.pcs y hy)⟩
    refine AllReadyH.cons (o := { dst := some 129, op := Op.buildSlice 30 1 #[(0, Operand.tmp 128)], type := 30, pos := "frag.go:129", after := #[{ on := 15, ground := Ground.data }], guard := none }) rfl (fun K hK => ?_) AllReadyH.nil
    go_simp; refine hK.out _ _ (HSL.out _) (fun hHeld => ?_)
    clear hK K
    try simp only [Act.put, List.setIfInBounds_toArray, List.set_cons_zero, List.set_cons_succ]
    refine wpAnyH_ready (rs := [5]) (by kernel_rfl) (by simp) ?_
    refine AllReadyH.cons (o := { dst := some 118, op := Op.load 30 (Operand.tmp 117), type := 30, pos := "frag.go:129", after := #[{ on := 4, ground := Ground.data }], guard := none }) rfl (fun K hK => ?_) AllReadyH.nil
    go_simp; refine hK.out _ _ (by first | exact HH0.out | exact HSL.out _) (fun hHeld => ?_)
    clear hK K
    try simp only [Act.put, List.setIfInBounds_toArray, List.set_cons_zero, List.set_cons_succ]
    refine wpAnyH_ready (rs := [17]) (by kernel_rfl) (by simp) ?_
    refine AllReadyH.cons (o := { dst := some 130, op := Op.call { callee := Callee.builtin Builtin.append, args := #[Operand.tmp 118, Operand.tmp 129], argTypes := #[30, 30] }, type := 30, pos := "frag.go:129", after := #[{ on := 5, ground := Ground.data }, { on := 16, ground := Ground.data }], guard := none }) rfl (fun K hK => ?_) AllReadyH.nil
    (refine step_app ETold rfl (.tmp 118) (.tmp 129) rfl base (.slice pv gl cv) gl (X3.gs.flatMap Td.cells) rfl (HP7.out.alloc _) _ 1 1 (Td.cells ⟨v, file, line⟩) rfl rfl (row_newAt _ _ _ _ rfl) (td_ones _) (by unfold maxLen; omega) (by omega) (by simp; omega) ?_); intro vp' w8 ho8 hg8 hs8; obtain ⟨p8, c8, rfl, -⟩ := own_shape ho8; have HO8 := hid ho8; have HG8 := hid hg8; clear ho8 hg8 hs8; obtain ⟨hh8, ha8⟩ := H3.out.appTold (by rw [HVC.out]; exact HG8.out); have HA8 := hid ha8; have zf2 := frozen_of_row _ _ 2 _ _ hh8; have z2 := cell_of_row _ _ 2 _ _ _ hh8; clear hh8 ha8; refine hK.out _ _ HA8.out (fun hHeld => ?_)
    clear hK K
    try simp only [Act.put, List.setIfInBounds_toArray, List.set_cons_zero, List.set_cons_succ]
    refine wpAnyH_take (i := 18) (oi := { dst := some 131, op := Op.nilCheck (Operand.tmp 113), type := 0, pos := "frag.go:129", after := #[{ on := 0, ground := Ground.data }, { on := 0, ground := Ground.phase }, { on := 1, ground := Ground.phase }, { on := 2, ground := Ground.phase }, { on := 3, ground := Ground.phase }, { on := 4, ground := Ground.phase }, { on := 5, ground := Ground.phase }, { on := 6, ground := Ground.phase }, { on := 7, ground := Ground.phase }, { on := 8, ground := Ground.phase }, { on := 9, ground := Ground.phase }, { on := 10, ground := Ground.phase }, { on := 11, ground := Ground.phase }, { on := 12, ground := Ground.phase }, { on := 13, ground := Ground.phase }, { on := 14, ground := Ground.phase }, { on := 15, ground := Ground.phase }, { on := 16, ground := Ground.phase }, { on := 17, ground := Ground.phase }], guard := none }) (v := ?pbbv18) rfl (by kernel_rfl) (by kernel_rfl) (by kernel_rfl) (fun _ _ _ h => h) (Or.inl ⟨by rfl, ?pbbh18⟩) (by assumption) ?pbbr18
    case pbbh18 => ((intro w hSw; (try dsimp only at hSw); go_simp); try with_reducible rfl)
    try simp only [Act.put, List.setIfInBounds_toArray, List.set_cons_zero, List.set_cons_succ]
    refine wpAnyH_take (i := 19) (oi := { dst := some 132, op := Op.fieldAddr 78 (Operand.tmp 131) 0, type := 0, pos := "frag.go:129", after := #[{ on := 18, ground := Ground.data }, { on := 0, ground := Ground.phase }, { on := 1, ground := Ground.phase }, { on := 2, ground := Ground.phase }, { on := 3, ground := Ground.phase }, { on := 4, ground := Ground.phase }, { on := 5, ground := Ground.phase }, { on := 6, ground := Ground.phase }, { on := 7, ground := Ground.phase }, { on := 8, ground := Ground.phase }, { on := 9, ground := Ground.phase }, { on := 10, ground := Ground.phase }, { on := 11, ground := Ground.phase }, { on := 12, ground := Ground.phase }, { on := 13, ground := Ground.phase }, { on := 14, ground := Ground.phase }, { on := 15, ground := Ground.phase }, { on := 16, ground := Ground.phase }, { on := 17, ground := Ground.phase }], guard := none }) (v := ?pbbv19) rfl (by kernel_rfl) (by kernel_rfl) (by kernel_rfl) (fun _ _ _ h => h) (Or.inl ⟨by rfl, ?pbbh19⟩) (by assumption) ?pbbr19
    case pbbh19 => ((intro w hSw; (try dsimp only at hSw); go_simp); try with_reducible rfl)
    try simp only [Act.put, List.setIfInBounds_toArray, List.set_cons_zero, List.set_cons_succ]
    refine wpAnyH_take (i := 20) (oi := { dst := some 133, op := Op.fieldAddr 32 (Operand.tmp 132) 2, type := 0, pos := "frag.go:129", after := #[{ on := 19, ground := Ground.data }, { on := 0, ground := Ground.phase }, { on := 1, ground := Ground.phase }, { on := 2, ground := Ground.phase }, { on := 3, ground := Ground.phase }, { on := 4, ground := Ground.phase }, { on := 5, ground := Ground.phase }, { on := 6, ground := Ground.phase }, { on := 7, ground := Ground.phase }, { on := 8, ground := Ground.phase }, { on := 9, ground := Ground.phase }, { on := 10, ground := Ground.phase }, { on := 11, ground := Ground.phase }, { on := 12, ground := Ground.phase }, { on := 13, ground := Ground.phase }, { on := 14, ground := Ground.phase }, { on := 15, ground := Ground.phase }, { on := 16, ground := Ground.phase }, { on := 17, ground := Ground.phase }], guard := none }) (v := ?pbbv20) rfl (by kernel_rfl) (by kernel_rfl) (by kernel_rfl) (fun _ _ _ h => h) (Or.inl ⟨by rfl, ?pbbh20⟩) (by assumption) ?pbbr20
    case pbbh20 => ((intro w hSw; (try dsimp only at hSw); go_simp); try with_reducible rfl)
    try simp only [Act.put, List.setIfInBounds_toArray, List.set_cons_zero, List.set_cons_succ]
    refine wpAnyH_ready (rs := [21]) (by kernel_rfl) (by simp) ?_
    refine AllReadyH.cons (o := { dst := none, op := Op.store 30 (Operand.tmp 133) (Operand.tmp 130), type := 0, pos := "frag.go:129", after := #[{ on := 20, ground := Ground.data }, { on := 17, ground := Ground.data }, { on := 17, ground := Ground.chain }, { on := 0, ground := Ground.phase }, { on := 1, ground := Ground.phase }, { on := 2, ground := Ground.phase }, { on := 3, ground := Ground.phase }, { on := 4, ground := Ground.phase }, { on := 5, ground := Ground.phase }, { on := 6, ground := Ground.phase }, { on := 7, ground := Ground.phase }, { on := 8, ground := Ground.phase }, { on := 9, ground := Ground.phase }, { on := 10, ground := Ground.phase }, { on := 11, ground := Ground.phase }, { on := 12, ground := Ground.phase }, { on := 13, ground := Ground.phase }, { on := 14, ground := Ground.phase }, { on := 15, ground := Ground.phase }, { on := 16, ground := Ground.phase }, { on := 17, ground := Ground.phase }], guard := none }) rfl (fun K hK => ?_) AllReadyH.nil
    go_simp; refine hK.out _ _ (HA8.out.set (by decide) _) (fun hHeld => ?_)
    clear hK K
    try simp only [Act.put, List.setIfInBounds_toArray, List.set_cons_zero, List.set_cons_succ]
    refine wpAnyH_done (by kernel_rfl) ?_ _
    go_wp2_with fail
    have hfin := H3.out.finTold ⟨v, file, line⟩ (by rw [← HGN.out]; exact HO8.out) (by rw [HVC.out]; exact HG8.out)
    refine ⟨⟨k + 1, by omega, by go_num, _, hfin.1, by rw [HST.out, ← HP3.out]; unfold FP.told1; rw [if_neg HLG.out]; rfl, ?_, HT3.out.trans hfin.2⟩, by simp [intOf]; omega⟩
    have q := HS3.out
    exact ⟨Nat.le_succ_of_le q.ps, Nat.le_succ_of_le q.ms, by show (X3.gs ++ [_]).length ≤ _; rw [List.length_append, ← HGN.out]; simp; omega, Nat.le_succ_of_le q.fs, fun y hy => Nat.le_succ_of_le (q.pcs y hy)⟩
  ·have hke : k = len := by omega
   subst hke
   go_wp2_with fail
   go_end0
   refine ⟨rfl, (TrnP.below HW.out.b HC.out.hz).trans HT3.out, X3, by rw [HR.out]; exact H3.out, ?_, HS3.out⟩
   rw [HR.out, HP3.out, HLEN.out, List.take_length]
def StR.cost (s : StR) : Nat := 1 + s.values.l.length + s.names.l.length
theorem StmtT.mono {R : FP × ByteArray} {n k : Nat} {e : Ending} (h : StmtT W base m mb file line R n e w') (hk : n ≤ k) : StmtT W base m mb file line R k e w' := by
 obtain ⟨h1, h2, X', h3, h4, h5⟩ := h
 exact ⟨h1, h2, X', h3, h4, h5.mono hk⟩
structure StR.low (s : StR) (base : Nat) : Prop where
 labels : ∀ a, s.labels.p = some a → s.labels.l ≠ [] → a.block < base
 values : ∀ a, s.values.p = some a → s.values.l ≠ [] → a.block < base
 names : ∀ a, s.names.p = some a → s.names.l ≠ [] → a.block < base
theorem SlOk.low {α : Type} {f : α → List Value} {bytes k : Nat} {s : Sl α} (h : SlOk W f bytes s) (hk : ∀ x, (f x).length = k) (hk0 : 0 < k) : ∀ a, s.p = some a → s.l ≠ [] → a.block < W.heap.size := fun a ha hne => by
 have hl := flat_len f k hk s.l
 have := List.length_pos_iff.2 hne
 have hpos : 0 < k * s.l.length := Nat.mul_pos hk0 this
 obtain ⟨b, o, e, hb, _⟩ := h.row.at (by omega)
 rw [ha] at e
 cases e
 exact hb
theorem StR.ok.low {s : StR} (h : s.ok W) : s.low W.heap.size :=
 ⟨h.labels.1.low (k := 1) (fun _ => rfl) (by decide), h.values.1.low (k := 3) (fun _ => rfl) (by decide), h.names.1.low (k := 1) (fun _ => rfl) (by decide)⟩
theorem stmt_any (h : CIs W base m mb X file line name) {n : Nat} (hn : Sm X n) (s : StR) (hn2 : n + s.cost ≤ 4000000) (hs : s.ok W) (hlow : s.low base) :
  Calls Try.prog 23 #[.pointer (some ⟨m, 0, none⟩), .agg s.cells.toArray] W (StmtT W base m mb file line (X.pl.stmt file line name s) (n + s.cost)) := by
 unfold StR.cost at hn2 ⊢
 by_cases hk : 1 ≤ s.kind ∧ s.kind ≤ 7
 ·rcases (by omega : s.kind = 1 ∨ s.kind = 2 ∨ s.kind = 3 ∨ s.kind = 4 ∨ s.kind = 5 ∨ s.kind = 6 ∨ s.kind = 7) with e | e | e | e | e | e | e
  ·exact (stmt_inst h hn (by omega) s hs e).mono fun _ _ q => q.mono (by omega)
  ·exact (stmt_section h hn (by omega) s hs e).mono fun _ _ q => q.mono (by omega)
  ·exact (stmt_global h hn s (by omega) hs hlow.names e).mono fun _ _ q => q.mono (by omega)
  ·exact (stmt_align h hn (by omega) s hs e).mono fun _ _ q => q.mono (by omega)
  ·exact (stmt_data h hn s (by omega) hs hlow.values e).mono fun _ _ q => q.mono (by omega)
  ·exact (stmt_ascii h hn (by omega) s hs e).mono fun _ _ q => q.mono (by omega)
  ·exact (stmt_equ h hn (by omega) s hs e).mono fun _ _ q => q.mono (by omega)
 ·exact (stmt_other h hn s hk).mono fun _ _ q => q.mono (by omega)
end Go.Proofs.Ythlingholhjcnaa
namespace Go.Proofs.Ythlingholhjcnaa
open Go.RowKit
variable {W W' w w' : World} {base m mb : Nat} {X X' : FV} {file line : Int} {name : ByteArray} {nm : List ByteArray}
def FP.marks (S : FP) (file line : Int) (name : ByteArray) (l : List ByteArray) : FP := l.foldl (fun S n => S.mark file line name n false v00) S
def FP.row (file : Int) (q : FP × ByteArray) (r : RwR) : FP × ByteArray := (q.1.marks file r.line q.2 r.s.labels.l).stmt file r.line q.2 r.s
def text0 : ByteArray := ⟨#[46, 116, 101, 120, 116]⟩
def FP.rows (file : Int) (l : List RwR) : FP × ByteArray := l.foldl (FP.row file) (⟨[], [], [], []⟩, text0)
def RwR.cost (r : RwR) : Nat := r.s.labels.l.length + r.s.cost
def costs (l : List RwR) : Nat := (l.map RwR.cost).sum
theorem costs_take (l : List RwR) (k : Nat) (hk : k < l.length) : costs (l.take (k + 1)) = costs (l.take k) + l[k].cost := by
 unfold costs
 rw [List.take_add_one, List.getElem?_eq_getElem hk, Option.toList_some, List.map_append, List.sum_append]
 simp
theorem costs_le (l : List RwR) (k : Nat) : costs (l.take k) ≤ costs l := by
 have h : costs l = costs (l.take k) + costs (l.drop k) := by
  unfold costs
  rw [← List.sum_append, ← List.map_append, List.take_append_drop]
 omega
theorem CIsN.reline (h : CIsN W base m mb X nm file line name) (v : Int) : CIsN (W.setCell ⟨m, 6, none⟩ (.int .i64 v)) base m mb X nm file v name ∧ Trn base W (W.setCell ⟨m, 6, none⟩ (.int .i64 v)) := by
 obtain ⟨am, ⟨es, c, e1, e2⟩, h2⟩ := h.mp
 have hmb : mb ≠ m := tag_ne (show tagAt W mb = some 0 by unfold tagAt; rw [e1]; rfl) h.tagM (by decide)
 have hl : Lies base (fun y => y ≠ 78 + 1) W (W.setCell ⟨m, 6, none⟩ (.int .i64 v)) := Lies.grown (grown_set _ _ _) (fun g hg => by cases hg; exact ⟨h.tagM, h.ge.1⟩) (fun hn => hn rfl) h.hz
 refine ⟨⟨heap_setCell_same _ _ 6 _ _ _ h.head, ⟨am, ⟨es, c, (heap_setCell_other _ _ _ _ hmb).trans e1, e2⟩, h2⟩, h.is.lies (hl.mono ?_), h.ge⟩, TrnP.store (by unfold isPT; decide) h (TrnP.refl _ _) h.tagM 6 _⟩
 rintro y ((rfl | rfl | rfl | rfl | rfl) | (rfl | rfl)) <;> decide
def RwBx (b : Nat) (r : RwR) (w' : World) : Prop := w'.heap[b]? = some (.cells r.cells.toArray 59 (0, 0))
theorem rw_bcells {b : Nat} {r : RwR} (h : RwBx b r W) : W.cell? ⟨b, 0, none⟩ = some (.int .i64 r.line) ∧ W.cell? ⟨b, 1, none⟩ = some r.s.labels.val ∧ W.cell? ⟨b, 2, none⟩ = some (.int .i64 r.s.kind) ∧ W.cell? ⟨b, 3, none⟩ = some (.string r.s.l.name) ∧ W.cell? ⟨b, 4, none⟩ = some r.s.l.opers.val ∧ W.cell? ⟨b, 5, none⟩ = some r.s.names.val ∧ W.cell? ⟨b, 6, none⟩ = some (.int .i64 r.s.size) ∧ W.cell? ⟨b, 7, none⟩ = some r.s.values.val ∧ W.cell? ⟨b, 8, none⟩ = some r.s.bytes.val :=
 ⟨cell_of_row _ _ 0 _ _ _ h, cell_of_row _ _ 1 _ _ _ h, cell_of_row _ _ 2 _ _ _ h, cell_of_row _ _ 3 _ _ _ h, cell_of_row _ _ 4 _ _ _ h, cell_of_row _ _ 5 _ _ _ h, cell_of_row _ _ 6 _ _ _ h, cell_of_row _ _ 7 _ _ _ h, cell_of_row _ _ 8 _ _ _ h⟩
theorem heap_newAt (w : World) (o : Obj) (n : Nat) (h : n = w.heap.size) : (w.alloc o).heap[n]? = some o := by subst h; exact heap_alloc_new w o
theorem mapAt {κ β : Type} (mk : κ → Value) (mv : β → Value) (w : World) (n : Nat) (h : n = w.heap.size) : MapIs mk mv (w.alloc (.map #[] 0)) n [] := by subst h; exact MapIs.made mk mv w
structure OneT (W : World) (R : FP) (n : Nat) (e : Ending) (w' : World) : Prop where
 a : ∃ X', e = .returned (.tuple #[.agg #[X'.pv, X'.mv, X'.gv], X'.fv]) ∧ FIs w' W.heap.size X' ∧ X'.pl = R ∧ Sm X' n
 b : Below W.heap.size W w'
theorem one_start (W : World) (file : Int) : ∃ W3, W3 = ((W.alloc (.cells #[.slice none 0 0, .slice none 0 0, .slice none 0 0] 32)).alloc (.map #[] 0)).alloc (.cells #[.slice none 0 0, .slice none 0 0, .slice none 0 0, .map (some (W.heap.size + 1)), .slice none 0 0, .int .i64 file, .int .i64 0, .string text0] 78) ∧
  CIs W3 W.heap.size (W.heap.size + 1 + 1) (W.heap.size + 1) nil0 file 0 text0 ∧ W3.heap[W.heap.size]? = some (.cells #[.slice none 0 0, .slice none 0 0, .slice none 0 0] 32 (0, 0)) ∧ Below W.heap.size W W3 := by
 refine ⟨_, rfl, ⟨?_, ⟨[], ?_, fun k => rfl⟩, FIs.nil _ _, by omega, by omega⟩, ?_, (((Below.refl _ _).alloc (Nat.le_refl _) _).alloc (by simp) _).alloc (by simp <;> omega) _⟩
 ·exact heap_newAt _ _ _ (by simp)
 ·exact (mapAt _ _ _ _ (by simp)).alloc _
 ·exact (Below.heap_alloc _ _ _ (by simp <;> omega)).trans ((Below.heap_alloc _ _ _ (by simp)).trans (heap_alloc_new _ _))
theorem rw_at {b o : Nat} {ys : List RwR} (h : Row w (some ⟨b, o, none⟩) (ys.flatMap RwR.cells)) (k : Nat) (hk : k < ys.length) :
  w.cell? ⟨b, o + k * 9, none⟩ = some (.int .i64 ys[k].line) ∧ w.cell? ⟨b, o + k * 9 + 1, none⟩ = some (.slice ys[k].s.labels.p ys[k].s.labels.l.length ys[k].s.labels.c) ∧ w.cell? ⟨b, o + k * 9 + 2, none⟩ = some (.int .i64 ys[k].s.kind) ∧ w.cell? ⟨b, o + k * 9 + 3, none⟩ = some (.string ys[k].s.l.name) ∧ w.cell? ⟨b, o + k * 9 + 4, none⟩ = some (.slice ys[k].s.l.opers.p ys[k].s.l.opers.l.length ys[k].s.l.opers.c) ∧
  w.cell? ⟨b, o + k * 9 + 5, none⟩ = some (.slice ys[k].s.names.p ys[k].s.names.l.length ys[k].s.names.c) ∧ w.cell? ⟨b, o + k * 9 + 6, none⟩ = some (.int .i64 ys[k].s.size) ∧ w.cell? ⟨b, o + k * 9 + 7, none⟩ = some (.slice ys[k].s.values.p ys[k].s.values.l.length ys[k].s.values.c) ∧ w.cell? ⟨b, o + k * 9 + 8, none⟩ = some (.slice ys[k].s.bytes.p ys[k].s.bytes.l.length ys[k].s.bytes.c) := rwr_cells h k hk
theorem rw_bat {b : Nat} {r : RwR} (h : RwBx b r W) : W.cell? ⟨b, 0, none⟩ = some (.int .i64 r.line) ∧ W.cell? ⟨b, 1, none⟩ = some (.slice r.s.labels.p r.s.labels.l.length r.s.labels.c) ∧ W.cell? ⟨b, 2, none⟩ = some (.int .i64 r.s.kind) ∧ W.cell? ⟨b, 3, none⟩ = some (.string r.s.l.name) ∧ W.cell? ⟨b, 4, none⟩ = some (.slice r.s.l.opers.p r.s.l.opers.l.length r.s.l.opers.c) ∧ W.cell? ⟨b, 5, none⟩ = some (.slice r.s.names.p r.s.names.l.length r.s.names.c) ∧ W.cell? ⟨b, 6, none⟩ = some (.int .i64 r.s.size) ∧ W.cell? ⟨b, 7, none⟩ = some (.slice r.s.values.p r.s.values.l.length r.s.values.c) ∧ W.cell? ⟨b, 8, none⟩ = some (.slice r.s.bytes.p r.s.bytes.l.length r.s.bytes.c) := rw_bcells h
theorem str_at {s : Sl ByteArray} (h : SlOk W (fun s : ByteArray => [Value.string s]) 16 s) {b o : Nat} (hp : s.p = some ⟨b, o, none⟩) (k : Nat) (hk : k < s.l.length) : W.cell? ⟨b, o + k, none⟩ = some (.string s.l[k]) := by
 have hrow := h.row
 rw [← map_flat1, hp] at hrow
 have := hrow.cell k (by simpa using hk)
 simpa using this
set_option maxRecDepth 20000 in
set_option maxHeartbeats 8000000 in
theorem one_any (file : Int) (p : Option Addr) (c : Nat) (rows : List RwR) (W : World) (hrow : Row W p (rows.flatMap RwR.cells)) (hok : ∀ r ∈ rows, r.s.ok W) (hlen : rows.length ≤ 1000000) (hcost : costs rows ≤ 3000000) :
  Calls Try.prog 9 #[.int .i64 file, .slice p rows.length c] W (OneT W (FP.rows file rows).1 (costs rows)) := by
 obtain ⟨W3, hW3, h3, hu3, hb3⟩ := one_start W file
 unfold text0 at hW3
 have HW := hid hW3
 have HU := hid hu3
 have HB3 := hid hb3
 have HROW := hid hrow
 have HOK := hid hok
 have HI0 : Hid (∃ (X' : FV) (line : Int) (name : ByteArray), CIs W3 W.heap.size (W.heap.size + 1 + 1) (W.heap.size + 1) X' file line name ∧ (X'.pl, name) = FP.rows file (rows.take 0) ∧ Sm X' (costs (rows.take 0)) ∧ Trn W.heap.size W3 W3) :=
  ⟨nil0, 0, text0, h3, rfl, ⟨Nat.le_refl _, Nat.le_refl _, Nat.le_refl _, Nat.le_refl _, fun y hy => (by cases hy)⟩, TrnP.refl _ _⟩
 have hmm := @run_makeMap Try.prog
 have hz3 : W3.heap.size = W.heap.size + 3 := by rw [hW3]; simp
 clear hW3 h3 hu3 hb3 hrow hok
 obtain ⟨len, hl⟩ : ∃ len, len = rows.length := ⟨_, rfl⟩
 have HLEN := hid hl
 rw [← hl] at hlen ⊢
 clear hl
 go_enter Try.func9, Try.ntmps9
 go_upto_region 2 with (fail)
 rw [← HW.out]
 clear hmm
 have HMU : Hid (W.heap.size + 1 + 1 ≠ W.heap.size) := by unfold Hid; omega
 generalize hmd : W.heap.size + 1 + 1 = m at *
 generalize hbd : W.heap.size + 1 = mb at *
 have HMD := hid hmd
 clear hmd hbd
 go_wp2_with (fail)
 go_loopw [17] (fun i wr => ∃ (k : Nat), k ≤ len ∧ i = .int .i64 k ∧ ∃ (X' : FV) (line : Int) (name : ByteArray), CIs wr W.heap.size m mb X' file line name ∧ (X'.pl, name) = FP.rows file (rows.take k) ∧ Sm X' (costs (rows.take k)) ∧ Trn W.heap.size W3 wr) (fun i _ => len - (intOf i).toNat)
 case atStart => exact ⟨0, by omega, rfl, HI0.out⟩
 case round =>
  rename World => wr
  obtain ⟨k, hk, rfl, X3, line, name, h3, hp3, hs3, ht3⟩ := hrel
  have H3 := hid h3
  have HP3 := hid hp3
  have HS3 := hid hs3
  have HT3 := hid ht3
  clear HI0
  by_cases hlt : k < len
  ·have hkI : (k : Int) < len := by omega
   have hkl : k < rows.length := by rw [← HLEN.out]; exact hlt
   have hbW : Below W.heap.size W wr := HB3.out.trans (ht3.1)
   obtain ⟨b, o, rfl, hbl, -⟩ := HROW.out.at (by rw [flat_len RwR.cells 9 (fun _ => rfl)]; omega)
   have hrow2 := HROW.out.below hbW
   obtain ⟨u0, u1, u2, u3, u4, u5, u6, u7, u8⟩ := rw_at hrow2 k hkl
   have HOKK := hid (HOK.out _ (List.getElem_mem hkl))
   have HCO := hid (costs_take rows k hkl)
   have HCL := hid (costs_le rows (k + 1))
   have HST : Hid (FP.rows file (rows.take (k + 1)) = FP.row file (FP.rows file (rows.take k)) rows[k]) := foldl_take _ _ _ _ hkl
   generalize rows[k] = r at *
   have hml : m < wr.heap.size := h3.lt
   have z6 := cell_of_row _ _ 6 _ _ _ h3.head
   have zf6 := frozen_of_row _ _ 6 _ _ h3.head
   obtain ⟨W6, hW6⟩ : ∃ W6, W6 = (wr.setCell ⟨m, 6, none⟩ (.int .i64 r.line)).alloc (.cells #[.int .i64 r.line, .slice r.s.labels.p r.s.labels.l.length r.s.labels.c, .int .i64 r.s.kind, .string r.s.l.name, .slice r.s.l.opers.p r.s.l.opers.l.length r.s.l.opers.c, .slice r.s.names.p r.s.names.l.length r.s.names.c, .int .i64 r.s.size, .slice r.s.values.p r.s.values.l.length r.s.values.c, .slice r.s.bytes.p r.s.bytes.l.length r.s.bytes.c] 59) := ⟨_, rfl⟩
   obtain ⟨h5, ht5⟩ := h3.reline r.line
   have h6 : CIs W6 W.heap.size m mb X3 file r.line name := by rw [hW6]; exact h5.below (alloc_below _ _)
   have HBX : Hid (RwBx wr.heap.size r W6) := by unfold Hid RwBx; rw [hW6]; exact heap_newAt _ _ _ (by simp)
   have HT6 : Hid (Trn W.heap.size wr W6) := by unfold Hid; rw [hW6]; exact ht5.trans (TrnP.below (alloc_below _ _) h5.hz)
   have H6 := hid h6
   have x1 := (rw_bat HBX.out).2.1
   have HW6 := hid hW6
   clear h3 hp3 hs3 ht3 hrow2 h5 h6 ht5 hW6 hbW
   go_upto_region 6 with (fail)
   rw [← HW6.out]
   obtain ⟨nl, hnl⟩ : ∃ nl, nl = r.s.labels.l.length := ⟨_, rfl⟩
   have HNL := hid hnl
   rw [← hnl] at x1
   clear hnl u0 u1 u2 u3 u4 u5 u6 u7 u8 z6 zf6 hml
   have HJ0 : Hid (∃ X', CIs W6 W.heap.size m mb X' file r.line name ∧ X'.pl = X3.pl.marks file r.line name (r.s.labels.l.take 0) ∧ Sm X' (costs (rows.take k) + 0) ∧ Trn W.heap.size W6 W6) := ⟨X3, H6.out, rfl, HS3.out, TrnP.refl _ _⟩
   have HLOW := hid HOKK.out.low
   have HCT : Hid (costs (rows.take k) + nl + r.s.cost ≤ 3000000) := by
    have h1 := HCO.out; have h2 := HCL.out
    unfold RwR.cost at h1
    rw [← HNL.out] at h1
    unfold Hid; omega
   have hnl3 : nl ≤ 3000000 := by have := HCT.out; omega
   have HMK : Hid (∀ (w3 : World) (X' : FV) (j : Nat) (nmx : ByteArray), CIs w3 W.heap.size m mb X' file r.line name → Sm X' (costs (rows.take k) + j) → j ≤ nl →
     Calls Try.prog 22 #[.pointer (some ⟨m, 0, none⟩), .agg #[.string nmx, .int .i64 0, .int .i64 0, .int .i64 0, .int .i64 0, .bool false, .int .i64 0, .string ⟨#[]⟩, .string ⟨#[]⟩]] w3
      (PutT w3 W.heap.size m mb X' file r.line name (X'.pl.mark file r.line name nmx false v00) (costs (rows.take k) + j + 1))) := fun w3 X' j nmx h3 hs hj =>
    mark_any h3 hs (by have := HCT.out; omega) ⟨nmx, 0, 0, 0, 0, false, v00⟩
   go_wp2_with (fail)
   go_loopw [30] (fun i wy => ∃ (j : Nat), j ≤ nl ∧ i = .int .i64 j ∧ ∃ X', CIs wy W.heap.size m mb X' file r.line name ∧ X'.pl = X3.pl.marks file r.line name (r.s.labels.l.take j) ∧ Sm X' (costs (rows.take k) + j) ∧ Trn W.heap.size W6 wy) (fun i _ => nl - (intOf i).toNat)
   case atStart => exact ⟨0, by omega, rfl, HJ0.out⟩
   case round =>
    rename World => wy
    obtain ⟨j, hj, rfl, X4, h4, hp4, hs4, ht4⟩ := hrel
    have H4 := hid h4
    have HP4 := hid hp4
    have HS4 := hid hs4
    have HT4 := hid ht4
    have HWY : Hid (Below W.heap.size W wy) := ((HB3.out.trans HT3.out.1).trans HT6.out.1).trans ht4.1
    clear HJ0
    by_cases hjl : j < nl
    ·have hjI : (j : Int) < nl := by omega
     have hjl2 : j < r.s.labels.l.length := by rw [← HNL.out]; exact hjl
     have hlab := (HOKK.out.below HWY.out).labels.1
     have hrl := hlab.row
     rw [← map_flat1] at hrl
     obtain ⟨b2, o2, hpe, hbl2, -⟩ := hrl.at (by simpa using (by omega : 0 < r.s.labels.l.length))
     have v0 := str_at hlab hpe j hjl2
     have HSJ : Hid (X3.pl.marks file r.line name (r.s.labels.l.take (j + 1)) = (X3.pl.marks file r.line name (r.s.labels.l.take j)).mark file r.line name r.s.labels.l[j] false v00) := foldl_take _ _ _ _ hjl2
     generalize r.s.labels.l[j] = nmx at *
     have HP := hid (HMK.out wy X4 j nmx h4 hs4 (by omega))
     rw [hpe] at *
     clear h4 hp4 hs4 ht4 hlab hrl hpe hjl2
     go_wp2_with (go_at_call 22; (with_reducible refine HP.out.mono ?_); rintro e w7 ⟨rfl, ht7, X7, h7, hp7, hs7⟩; have H7 := hid (And.intro h7 (And.intro hp7 (And.intro hs7 ht7))); clear h7 hp7 hs7 ht7)
     exact ⟨⟨j + 1, by omega, by go_num, X7, H7.out.1, by rw [H7.out.2.1, HSJ.out, HP4.out], H7.out.2.2.1, HT4.out.trans H7.out.2.2.2⟩, by simp [intOf]; omega⟩
    ·have hje : j = nl := by omega
     subst hje
     have hbx : RwBx wr.heap.size r wy := (ht4.2.tag _ _ (tag_row HBX.out) (by unfold isPT; decide)).trans HBX.out
     obtain ⟨-, q1, q2, q3, q4, q5, q6, q7, q8⟩ := rw_bat hbx
     have HSTM : Hid (Calls Try.prog 23 #[.pointer (some ⟨m, 0, none⟩), .agg #[.slice r.s.labels.p r.s.labels.l.length r.s.labels.c, .int .i64 r.s.kind, .string r.s.l.name, .slice r.s.l.opers.p r.s.l.opers.l.length r.s.l.opers.c, .slice r.s.names.p r.s.names.l.length r.s.names.c, .int .i64 r.s.size, .slice r.s.values.p r.s.values.l.length r.s.values.c, .slice r.s.bytes.p r.s.bytes.l.length r.s.bytes.c]] wy
       (StmtT wy W.heap.size m mb file r.line (X4.pl.stmt file r.line name r.s) (costs (rows.take k) + j + r.s.cost))) :=
      stmt_any h4 hs4 r.s (by have := HCT.out; omega) (HOKK.out.below HWY.out) HLOW.out
     rw [HNL.out] at HSTM
     clear h4 hp4 hs4 ht4 hbx x1 hj hnl3
     go_wp2_with (go_at_call 23; (with_reducible refine HSTM.out.mono ?_); rintro e w7 ⟨rfl, ht7, X7, h7, hp7, hs7⟩; have H7 := hid (And.intro h7 (And.intro hp7 (And.intro hs7 ht7))); clear h7 hp7 hs7 ht7)
     refine ⟨⟨k + 1, by omega, by go_num, X7, r.line, _, H7.out.1, ?_, ?_, ((HT3.out.trans HT6.out).trans HT4.out).trans H7.out.2.2.2⟩, by simp [intOf]; omega⟩
     ·rw [HST.out, H7.out.2.1, HP4.out, HNL.out, List.take_length, ← HP3.out]
      rfl
     ·have := H7.out.2.2.1
      rw [HCO.out]
      unfold RwR.cost
      rw [← Nat.add_assoc]
      exact this
  ·have hke : k = len := by omega
   subst hke
   have hu : wr.heap[W.heap.size]? = some (.cells #[.slice none 0 0, .slice none 0 0, .slice none 0 0] 32 (0, 0)) := (ht3.2.tag _ _ (tag_row HU.out) (by unfold isPT; decide)).trans HU.out
   have HUW := hid hu
   obtain ⟨p0, e0, hpv, -⟩ := own_shape h3.is.parts
   obtain ⟨p1, e1, hmv, -⟩ := own_shape h3.is.marks
   obtain ⟨p2, e2, hgv, -⟩ := own_shape h3.is.globals
   obtain ⟨p4, e4, hfv, -⟩ := own_shape h3.is.faults
   have a0 : ∀ w1 : World, HdC m mb X3 file line name w1 → w1.cell? ⟨m, 0, none⟩ = some (.slice p0 X3.ps.length e0) := fun w1 hw => by rw [← hpv]; exact cell_of_row _ _ 0 _ _ _ hw
   have a1 : ∀ w1 : World, HdC m mb X3 file line name w1 → w1.cell? ⟨m, 1, none⟩ = some (.slice p1 X3.ms.length e1) := fun w1 hw => by rw [← hmv]; exact cell_of_row _ _ 1 _ _ _ hw
   have a2 : ∀ w1 : World, HdC m mb X3 file line name w1 → w1.cell? ⟨m, 2, none⟩ = some (.slice p2 X3.gs.length e2) := fun w1 hw => by rw [← hgv]; exact cell_of_row _ _ 2 _ _ _ hw
   have a4 : ∀ w1 : World, HdC m mb X3 file line name w1 → w1.cell? ⟨m, 4, none⟩ = some (.slice p4 X3.fs.length e4) := fun w1 hw => by rw [← hfv]; exact cell_of_row _ _ 4 _ _ _ hw
   have HSH := hid (And.intro hpv (And.intro hmv (And.intro hgv hfv)))
   have HH0 : Hid (HdC m mb X3 file line name wr.drew) := h3.head
   have hmu : m ≠ W.heap.size := HMU.out
   have z0 := cell_of_row _ _ 0 _ _ _ hu
   have z1 := cell_of_row _ _ 1 _ _ _ hu
   have z2 := cell_of_row _ _ 2 _ _ _ hu
   have zf0 := frozen_of_row _ _ 0 _ _ hu
   have zf1 := frozen_of_row _ _ 1 _ _ hu
   have zf2 := frozen_of_row _ _ 2 _ _ hu
   have HFS : Hid (∀ (w' : World) (k : Nat) (v : Value), HdC m mb X3 file line name w' → HdC m mb X3 file line name (w'.setCell ⟨W.heap.size, k, none⟩ v)) := fun w' k v hw => (heap_setCell_other _ _ _ _ hmu).trans hw
   obtain ⟨W9, hW9⟩ : ∃ W9, W9 = ((wr.setCell ⟨W.heap.size, 0, none⟩ (.slice p0 X3.ps.length e0)).setCell ⟨W.heap.size, 1, none⟩ (.slice p1 X3.ms.length e1)).setCell ⟨W.heap.size, 2, none⟩ (.slice p2 X3.gs.length e2) := ⟨_, rfl⟩
   have h9 : W9.heap[W.heap.size]? = some (.cells #[.slice p0 X3.ps.length e0, .slice p1 X3.ms.length e1, .slice p2 X3.gs.length e2] 32 (0, 0)) := by
    rw [hW9]
    exact heap_setCell_same _ _ 2 _ _ _ (heap_setCell_same _ _ 1 _ _ _ (heap_setCell_same _ _ 0 _ _ _ hu))
   have r0 := cell_of_row _ _ 0 _ _ _ h9
   have r1 := cell_of_row _ _ 1 _ _ _ h9
   have r2 := cell_of_row _ _ 2 _ _ _ h9
   simp only [List.getElem?_toArray, List.getElem?_cons_zero, List.getElem?_cons_succ] at r0 r1 r2
   have hg9 : wr.grownBy W9 (some W.heap.size) := by
    rw [hW9]; exact ⟨rfl, rfl, rfl, by simp, fun k _ hk => (heap_setCell_other _ _ _ _ (fun e => hk (by rw [e]))).trans ((heap_setCell_other _ _ _ _ (fun e => hk (by rw [e]))).trans (heap_setCell_other _ _ _ _ (fun e => hk (by rw [e]))))⟩
   have HF9 : Hid (FIs W9 W.heap.size X3) := h3.is.but (fun q hq => by
    obtain ⟨x, hx, htq⟩ := h3.is.fp_tag hq
    refine hg9.block q (tag_lt htq) (fun e => ?_)
    injection e with e
    exact tag_ne htq (tag_row hu) (by rcases hx with rfl | rfl | rfl | rfl | rfl <;> decide) e)
    (Lies.grown hg9 (fun g e => by cases e; exact ⟨tag_row hu, Nat.le_refl _⟩) (by unfold isOB; decide) h3.hz)
   have hsb : ∀ (w1 : World) (k : Nat) (v : Value), Below W.heap.size wr w1 → Below W.heap.size wr (w1.setCell ⟨W.heap.size, k, none⟩ v) := fun w1 k v h => h.setCell (Nat.le_refl _) v
   have HB9 : Hid (Below W.heap.size W W9) := (HB3.out.trans ht3.1).trans (by rw [hW9]; exact hsb _ _ _ (hsb _ _ _ (hsb _ _ _ (Below.refl _ _))))
   clear hsb
   have HW9 := hid hW9
   clear h3 hp3 hs3 ht3 hu hpv hmv hgv hfv hW9 h9 hg9 hk
   go_upto_region 13 with (fail)
   refine wp_region_held_drew (S := HdC m mb X3 file line name) (by kernel_rfl) HH0.out (fun hHeld => ?_)
   refine wpAnyH_take (i := 0) (oi := { dst := some 44, op := Op.move (Operand.tmp 6), type := 75, pos := "frag.go:144", after := #[], guard := none }) (v := ?pzv0) rfl (by kernel_rfl) (by kernel_rfl) (by kernel_rfl) (fun _ _ _ h => h) (Or.inl ⟨by rfl, ?pzh0⟩) (by assumption) ?pzr0
   case pzh0 => ((intro w hSw; (try dsimp only at hSw); go_simp); try with_reducible rfl)
   try simp only [Act.put, List.setIfInBounds_toArray, List.set_cons_zero, List.set_cons_succ]
   refine wpAnyH_take (i := 1) (oi := { dst := some 45, op := Op.nilCheck (Operand.tmp 44), type := 0, pos := "frag.go:144", after := #[{ on := 0, ground := Ground.data }], guard := none }) (v := ?pzv1) rfl (by kernel_rfl) (by kernel_rfl) (by kernel_rfl) (fun _ _ _ h => h) (Or.inl ⟨by rfl, ?pzh1⟩) (by assumption) ?pzr1
   case pzh1 => ((intro w hSw; (try dsimp only at hSw); go_simp); try with_reducible rfl)
   try simp only [Act.put, List.setIfInBounds_toArray, List.set_cons_zero, List.set_cons_succ]
   refine wpAnyH_take (i := 2) (oi := { dst := some 46, op := Op.fieldAddr 78 (Operand.tmp 45) 0, type := 0, pos := "frag.go:144", after := #[{ on := 1, ground := Ground.data }], guard := none }) (v := ?pzv2) rfl (by kernel_rfl) (by kernel_rfl) (by kernel_rfl) (fun _ _ _ h => h) (Or.inl ⟨by rfl, ?pzh2⟩) (by assumption) ?pzr2
   case pzh2 => ((intro w hSw; (try dsimp only at hSw); go_simp); try with_reducible rfl)
   try simp only [Act.put, List.setIfInBounds_toArray, List.set_cons_zero, List.set_cons_succ]
   refine wpAnyH_take (i := 3) (oi := { dst := some 47, op := Op.load 32 (Operand.tmp 46), type := 32, pos := "frag.go:144", after := #[{ on := 2, ground := Ground.data }], guard := none }) (v := ?pzv3) rfl (by kernel_rfl) (by kernel_rfl) (by kernel_rfl) (fun _ _ _ h => h) (Or.inl ⟨by rfl, ?pzh3⟩) (by assumption) ?pzr3
   case pzh3 => ((intro w hSw; (try dsimp only at hSw); go_simp); try with_reducible rfl)
   try simp only [Act.put, List.setIfInBounds_toArray, List.set_cons_zero, List.set_cons_succ]
   refine wpAnyH_take (i := 4) (oi := { dst := some 48, op := Op.move (Operand.tmp 6), type := 75, pos := "frag.go:144", after := #[{ on := 8, ground := Ground.gcOnly Departure.lateStores }], guard := none }) (v := ?pzv4) rfl (by kernel_rfl) (by kernel_rfl) (by kernel_rfl) (fun _ _ _ h => h) (Or.inl ⟨by rfl, ?pzh4⟩) (by assumption) ?pzr4
   case pzh4 => ((intro w hSw; (try dsimp only at hSw); go_simp); try with_reducible rfl)
   try simp only [Act.put, List.setIfInBounds_toArray, List.set_cons_zero, List.set_cons_succ]
   refine wpAnyH_take (i := 5) (oi := { dst := some 49, op := Op.nilCheck (Operand.tmp 48), type := 0, pos := "frag.go:144", after := #[{ on := 4, ground := Ground.data }, { on := 8, ground := Ground.gcOnly Departure.lateStores }], guard := none }) (v := ?pzv5) rfl (by kernel_rfl) (by kernel_rfl) (by kernel_rfl) (fun _ _ _ h => h) (Or.inl ⟨by rfl, ?pzh5⟩) (by assumption) ?pzr5
   case pzh5 => ((intro w hSw; (try dsimp only at hSw); go_simp); try with_reducible rfl)
   try simp only [Act.put, List.setIfInBounds_toArray, List.set_cons_zero, List.set_cons_succ]
   refine wpAnyH_take (i := 6) (oi := { dst := some 50, op := Op.fieldAddr 78 (Operand.tmp 49) 2, type := 0, pos := "frag.go:144", after := #[{ on := 5, ground := Ground.data }, { on := 8, ground := Ground.gcOnly Departure.lateStores }], guard := none }) (v := ?pzv6) rfl (by kernel_rfl) (by kernel_rfl) (by kernel_rfl) (fun _ _ _ h => h) (Or.inl ⟨by rfl, ?pzh6⟩) (by assumption) ?pzr6
   case pzh6 => ((intro w hSw; (try dsimp only at hSw); go_simp); try with_reducible rfl)
   try simp only [Act.put, List.setIfInBounds_toArray, List.set_cons_zero, List.set_cons_succ]
   refine wpAnyH_take (i := 7) (oi := { dst := some 51, op := Op.load 33 (Operand.tmp 50), type := 33, pos := "frag.go:144", after := #[{ on := 6, ground := Ground.data }, { on := 8, ground := Ground.gcOnly Departure.lateStores }], guard := none }) (v := ?pzv7) rfl (by kernel_rfl) (by kernel_rfl) (by kernel_rfl) (fun _ _ _ h => h) (Or.inl ⟨by rfl, ?pzh7⟩) (by assumption) ?pzr7
   case pzh7 => ((intro w hSw; (try dsimp only at hSw); go_simp); try with_reducible rfl)
   try simp only [Act.put, List.setIfInBounds_toArray, List.set_cons_zero, List.set_cons_succ]
   refine wpAnyH_ready (rs := [8]) (by kernel_rfl) (by simp) ?_
   refine AllReadyH.cons (o := { dst := none, op := Op.store 32 (Operand.tmp 4) (Operand.tmp 47), type := 0, pos := "frag.go:144", after := #[{ on := 3, ground := Ground.data }, { on := 0, ground := Ground.phase }, { on := 1, ground := Ground.phase }, { on := 2, ground := Ground.phase }, { on := 3, ground := Ground.phase }, { on := 4, ground := Ground.textOnly Departure.lateStores }, { on := 5, ground := Ground.textOnly Departure.lateStores }, { on := 6, ground := Ground.textOnly Departure.lateStores }, { on := 7, ground := Ground.textOnly Departure.lateStores }], guard := none }) rfl (fun K hK => ?_) AllReadyH.nil
   go_simp; refine hK.out _ _ (HFS.out _ _ _ (HFS.out _ _ _ (HFS.out _ _ _ HH0.out))) (fun hHeld => ?_)
   clear hK K
   try simp only [Act.put, List.setIfInBounds_toArray, List.set_cons_zero, List.set_cons_succ]
   refine wpAnyH_take (i := 9) (oi := { dst := some 5, op := Op.assign (Operand.tmp 51), type := 33, pos := "frag.go:144", after := #[{ on := 7, ground := Ground.data }, { on := 8, ground := Ground.chain }, { on := 0, ground := Ground.phase }, { on := 1, ground := Ground.phase }, { on := 2, ground := Ground.phase }, { on := 3, ground := Ground.phase }, { on := 4, ground := Ground.phase }, { on := 5, ground := Ground.phase }, { on := 6, ground := Ground.phase }, { on := 7, ground := Ground.phase }, { on := 8, ground := Ground.phase }], guard := none }) (v := ?pzv9) rfl (by kernel_rfl) (by kernel_rfl) (by kernel_rfl) (fun _ _ _ h => h) (Or.inl ⟨by rfl, ?pzh9⟩) (by assumption) ?pzr9
   case pzh9 => ((intro w hSw; (try dsimp only at hSw); go_simp); try with_reducible rfl)
   try simp only [Act.put, List.setIfInBounds_toArray, List.set_cons_zero, List.set_cons_succ]
   refine wpAnyH_done (by kernel_rfl) ?_ _
   go_wp2_with fail
   rw [← HW9.out]
   have q0 : W9.drew.cell? ⟨W.heap.size, 0, none⟩ = some (.slice p0 X3.ps.length e0) := r0
   have q1 : W9.drew.cell? ⟨W.heap.size, 1, none⟩ = some (.slice p1 X3.ms.length e1) := r1
   have q2 : W9.drew.cell? ⟨W.heap.size, 2, none⟩ = some (.slice p2 X3.gs.length e2) := r2
   refine bodyPost_ret (v := .tuple #[.agg #[.slice p0 X3.ps.length e0, .slice p1 X3.ms.length e1, .slice p2 X3.gs.length e2], .slice p4 X3.fs.length e4]) (by simp [results, Try.results9, go_sem, q0, q1, q2, r0, r1, r2]) rfl ?_
   refine ⟨⟨X3, by rw [HSH.out.1, HSH.out.2.1, HSH.out.2.2.1, HSH.out.2.2.2], HF9.out.lies (Lies.below _ (Below.refl _ _).drew (HB9.out.size)), ?_, ?_⟩, HB9.out.drew⟩
   (have := HP3.out; rw [HLEN.out, List.take_length] at this; rw [← this])
   (have := HS3.out; rw [HLEN.out, List.take_length] at this; exact this)
end Go.Proofs.Ythlingholhjcnaa
