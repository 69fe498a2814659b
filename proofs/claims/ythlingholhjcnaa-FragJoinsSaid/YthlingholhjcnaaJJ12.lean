/-
 The document's named and copied.
 The document's put: a fault put into a list that rises.
 The document's Faults.
-/
import Derived.Test.YthlingholhjcnaaJJ11
import Derived.Test.YthlingholhjcnaaJJ8
namespace Go.Proofs.Ythlingholhjcnaa
open Go.RowKit
variable {W W' w w' : World}
theorem own_sh {base size n : Nat} {e : TypeId} {v : Value} {xs : List Value} (ho : w.ownsRow base e size v n xs) : ∃ p c, v = .slice p n c ∧ Row w p xs ∧ (p = none → c = 0) := by
 obtain ⟨p, c, e1, hnc, hcm, hr, hp0, hge⟩ := own_row ho
 refine ⟨p, c, e1, hr, ?_⟩
 rintro rfl
 rcases ho.2 with ⟨e2, _⟩ | ⟨g, cap, cur, e2, _⟩
 ·rw [e1] at e2; injection e2
 ·rw [e1] at e2; injection e2 with e3; cases e3
def namedI (ps : List PtR) (name : ByteArray) : Int := match idxO (ps.map PtR.name) name with | some i => (i : Nat) | none => -1
set_option maxRecDepth 20000 in
set_option maxHeartbeats 1000000 in
theorem named_any (p : Option Addr) (c : Nat) (ps : List PtR) (name : ByteArray) (W : World) (hrow : Row W p (ps.flatMap PtR.cells)) (hlen : ps.length ≤ 1000000000) :
  Calls Try.prog 50 #[.slice p ps.length c, .string name] W (fun e w' => e = .returned (.int .i64 (namedI ps name)) ∧ w' = W) := by
 obtain ⟨n, hnn⟩ : ∃ n, n = ps.length := ⟨_, rfl⟩
 have HNN := hid hnn
 have HROW := hid hrow
 rw [← hnn] at hlen ⊢
 clear hnn hrow
 go_enter Try.func50, Try.ntmps50
 go_wp2_with (fail)
 go_loopw [5] (fun i wr => ∃ (k : Nat), k ≤ n ∧ i = .int .i64 k ∧ wr = W ∧ ∀ j (h : j < k) (h2 : j < ps.length), ps[j].name ≠ name) (fun i _ => n - (intOf i).toNat)
 case atStart => exact ⟨0, by omega, rfl, rfl, fun j h _ => absurd h (by omega)⟩
 case round =>
  rename World => wr
  obtain ⟨k, hk, rfl, rfl, hne⟩ := hrel
  have HNE := hid hne
  clear hne
  by_cases hlt : k < n
  ·have hkI : (k : Int) < n := by omega
   have hkl : k < ps.length := by rw [← HNN.out]; exact hlt
   obtain ⟨b, o, rfl, hbl, -⟩ := HROW.out.at (by rw [flat_len PtR.cells 4 (fun _ => rfl)]; omega)
   have v0 := (ptr_cells HROW.out k hkl).1
   by_cases he : ps[k].name = name
   ·have hes := strEq he
    have HE := hid he
    clear he
    obtain ⟨kn, hkn⟩ : ∃ kn, kn = ps[k].name := ⟨_, rfl⟩
    rw [← hkn] at hes v0
    clear hkn
    have HI : Hid (namedI ps name = k) := by
     unfold Hid namedI
     rw [idx_some (i := k) (by simpa using hkl) (by rw [List.getElem_map]; exact HE.out) fun j hj => by rw [List.getElem_map]; exact HNE.out j hj (by omega)]
    go_wp2_with (fail)
    go_ret
    exact ⟨by rw [HI.out]; rfl, rfl⟩
   ·have hes := strNe he
    have HE := hid he
    clear he
    obtain ⟨kn, hkn⟩ : ∃ kn, kn = ps[k].name := ⟨_, rfl⟩
    have HKN := hid hkn
    rw [← hkn] at hes v0
    clear hkn
    go_wp2_with (fail)
    refine ⟨⟨k + 1, by omega, by go_num, trivial, fun j hj hj2 => ?_⟩, by simp [intOf]; omega⟩
    by_cases e : j = k
    ·subst e; exact HE.out
    ·exact HNE.out j (by omega) hj2
  ·have hke : k = n := by omega
   subst hke
   have HI : Hid (namedI ps name = -1) := by
    unfold Hid namedI
    rw [idx_none fun j hj => by
     rw [List.getElem_map]
     have hj2 : j < ps.length := by simpa using hj
     exact HNE.out j (by rw [HNN.out]; exact hj2) hj2]
   go_wp2_with (fail)
   go_ret
   exact ⟨by rw [HI.out]; rfl, rfl⟩
structure CopT (W : World) (l : List PcR) (e : Ending) (w' : World) : Prop where
 ex : ∃ (v : Value) (l' : List PcR), e = .returned v ∧ w'.ownsRow W.heap.size 64 11 v l.length (l'.flatMap PcR.cells) ∧ l'.map PcR.pl = l.map PcR.pl ∧ ∀ x ∈ l', PcOk w' 0 x
 b : Below W.heap.size W w'
structure CopI (W : World) (l : List PcR) (k : Nat) (v : Value) (w : World) : Prop where
 ex : ∃ (l' : List PcR), w.ownsRow W.heap.size 64 11 v k (l'.flatMap PcR.cells) ∧ l'.map PcR.pl = (l.take k).map PcR.pl ∧ ∀ x ∈ l', PcOk w 0 x
 b : Below W.heap.size W w
theorem nil_below {w w' : World} (hg : w.grownBy w' (Value.slice none 0 0).ownBlock) : Below w.heap.size w w' := (Below.refl _ _).grown hg (Nat.le_refl _) (fun k e => by cases e)
theorem piece_boxR {bx : Nat} {x : PcR} {wd w2 w3 : World} {lp bp : Option Addr} {lc bc : Nat} (hx : BxP bx x wd) (h2 : Below wd.heap.size wd w2) (hs2 : SlOk w2 (fun n : Int => [Value.int .u8 n]) 1 ⟨bp, bc, x.b.l⟩) (ht2 : ∀ a, bp = some a → tagAt w2 a.block = some (5 + 1))
  (h3 : Below (w2.setCell ⟨bx, 9, none⟩ (.slice bp x.b.l.length bc)).heap.size (w2.setCell ⟨bx, 9, none⟩ (.slice bp x.b.l.length bc)) w3) (hs3 : SlOk w3 Oc.cells 120 ⟨lp, lc, x.l.opers.l⟩) (ht3 : ∀ a, lp = some a → tagAt w3 a.block = some (72 + 1)) :
  ∃ x' : PcR, BxP bx x' (w3.setCell ⟨bx, 4, none⟩ (.slice lp x.l.opers.l.length lc)) ∧ PcOk (w3.setCell ⟨bx, 4, none⟩ (.slice lp x.l.opers.l.length lc)) 0 x' ∧ x'.pl = x.pl := by
 have hx2 : BxP bx x w2 := (h2.block _ (Array.getElem?_eq_some_iff.1 hx).1).trans hx
 have hx2s : (w2.setCell ⟨bx, 9, none⟩ (.slice bp x.b.l.length bc)).heap[bx]? = some (.cells (PcR.cells ⟨x.kind, x.file, x.line, x.l, x.v, x.size, ⟨bp, bc, x.b.l⟩, x.align⟩).toArray 64 (0, 0)) := heap_setCell_same _ _ 9 _ _ _ hx2
 have hx3 : w3.heap[bx]? = some (.cells (PcR.cells ⟨x.kind, x.file, x.line, x.l, x.v, x.size, ⟨bp, bc, x.b.l⟩, x.align⟩).toArray 64 (0, 0)) := (h3.block _ (Array.getElem?_eq_some_iff.1 hx2s).1).trans hx2s
 have hx4 : (w3.setCell ⟨bx, 4, none⟩ (.slice lp x.l.opers.l.length lc)).heap[bx]? = some (.cells (PcR.cells ⟨x.kind, x.file, x.line, ⟨x.l.name, ⟨lp, lc, x.l.opers.l⟩⟩, x.v, x.size, ⟨bp, bc, x.b.l⟩, x.align⟩).toArray 64 (0, 0)) := heap_setCell_same _ _ 4 _ _ _ hx3
 have ht2s : ∀ a, bp = some a → (w2.setCell ⟨bx, 9, none⟩ (.slice bp x.b.l.length bc)).heap[a.block]? = w2.heap[a.block]? := fun a ha => heap_setCell_other _ _ _ _ (tag_ne (ht2 a ha) (tag_row hx2) (by decide))
 have ht23 : ∀ a, bp = some a → w3.heap[a.block]? = w2.heap[a.block]? := fun a ha => (h3.block _ (tag_lt (tag_blk (ht2 a ha) (ht2s a ha)))).trans (ht2s a ha)
 have k2 : ∀ a, bp = some a → (w3.setCell ⟨bx, 4, none⟩ (.slice lp x.l.opers.l.length lc)).heap[a.block]? = w2.heap[a.block]? := fun a ha => (heap_setCell_other _ _ _ _ (tag_ne (tag_blk (ht2 a ha) (ht23 a ha)) (tag_row hx3) (by decide))).trans (ht23 a ha)
 have k3 : ∀ a, lp = some a → (w3.setCell ⟨bx, 4, none⟩ (.slice lp x.l.opers.l.length lc)).heap[a.block]? = w3.heap[a.block]? := fun a ha => heap_setCell_other _ _ _ _ (tag_ne (ht3 a ha) (tag_row hx3) (by decide))
 exact ⟨_, hx4, ⟨⟨row_blk hs3.row k3, hs3.len, hs3.cap, hs3.nil⟩, fun a ha => .inr (tag_blk (ht3 a ha) (k3 a ha)), ⟨row_blk hs2.row k2, hs2.len, hs2.cap, hs2.nil⟩, fun a ha => .inr (tag_blk (ht2 a ha) (k2 a ha))⟩, rfl⟩
theorem CopI.fin {l : List PcR} {k : Nat} {v v' : Value} {wr wf w5 : World} {x x' : PcR} (h : CopI W l k v wr) (hb : Below wr.heap.size wr wf) (hl : l.take (k + 1) = l.take k ++ [x]) (hx : x'.pl = x.pl) (hok : PcOk wf 0 x') (o : Obj)
  {l' : List PcR} (e1 : l'.map PcR.pl = (l.take k).map PcR.pl) (e2 : ∀ x ∈ l', PcOk wr 0 x) (hvo : wr.ownsRow W.heap.size 64 11 v k (l'.flatMap PcR.cells)) (ho : w5.ownsRow W.heap.size 64 11 v' (k + 1) (l'.flatMap PcR.cells ++ x'.cells)) (hg : (wf.alloc o).grownBy w5 v.ownBlock) : CopI W l (k + 1) v' w5 := by
 have hA := own_below (own_below hvo hb) (alloc_below wf o)
 have l1 : Lies 0 isOB wr (wf.alloc o) := (Lies.below _ hb (Nat.zero_le _)).trans (Lies.below _ (alloc_below wf o) (Nat.zero_le _))
 have l2 : Lies 0 isOB (wf.alloc o) w5 := (Lies.grown (P := fun x => x ≠ 64 + 1) hg (fun g hgg => ⟨own_tag hA hgg, Nat.zero_le _⟩) (fun hn => hn rfl) (Nat.zero_le _)).mono (by rintro x (rfl | rfl) <;> decide)
 refine ⟨⟨l' ++ [x'], ?_, ?_, fun y hy => ?_⟩, ?_⟩
 ·rw [List.flatMap_append]; simpa using ho
 ·rw [hl, List.map_append, List.map_append, e1, List.map_cons, List.map_cons, hx, List.map_nil]
 ·rcases List.mem_append.1 hy with h1 | h1
  ·exact ((e2 y h1).lies l1).lies l2
  ·rw [List.mem_singleton.1 h1]
   exact (hok.lies (Lies.below _ (alloc_below wf o) (Nat.zero_le _))).lies l2
 ·exact ((h.b.trans ((hb.mono h.b.size).trans ((alloc_below wf o).mono (Nat.le_trans h.b.size hb.size))))).grown hg (by have := h.b.size; have := hb.size; simp; omega) (fun g e => own_ge hvo g e)
set_option maxRecDepth 40000 in
set_option maxHeartbeats 4000000 in
theorem copied_any (s : Sl PcR) (W : World) (hrow : Row W s.p (s.l.flatMap PcR.cells)) (hlen : s.l.length ≤ 1000000000) (hin : ∀ x ∈ s.l, PcRd W x) :
  Calls Try.prog 51 #[.slice s.p s.l.length s.c] W (CopT W s.l) := by
 obtain ⟨p, c, l⟩ := s
 dsimp only at hrow hlen hin ⊢
 obtain ⟨N, hN⟩ : ∃ N, N = l.length := ⟨_, rfl⟩
 have HN := hid hN
 have HROW := hid hrow
 have HIN := hid hin
 rw [← hN] at hlen ⊢
 clear hN hrow hin
 go_enter Try.func51, Try.ntmps51
 go_wp2_with (fail)
 go_loopw [3, 4] (fun v i wr => ∃ (k : Nat), k ≤ N ∧ i = .int .i64 k ∧ CopI W l k v wr) (fun _ i _ => N - (intOf i).toNat)
 case atStart => exact ⟨0, Nat.zero_le _, rfl, ⟨[], World.ownsRow_nil _ _ _ _, rfl, fun x hx => by cases hx⟩, Below.refl _ _⟩
 case round =>
  rename World => wr
  obtain ⟨k, hk, rfl, h1⟩ := hrel
  have H1 := hid h1
  obtain ⟨l', ho1, e1, e2⟩ := h1.ex
  obtain ⟨vp, vc, rfl, -⟩ := own_shape ho1
  have HO1 := hid ho1
  have HE := hid (And.intro e1 e2)
  by_cases hlt : k < N
  ·have hkI : (k : Int) < N := by omega
   have hkl : k < l.length := by rw [← HN.out]; exact hlt
   have hrow := HROW.out.below h1.b
   obtain ⟨qb, qo, hqe, -, -⟩ := hrow.at (by rw [flat_len PcR.cells 11 (fun _ => rfl)]; omega)
   rw [hqe] at hrow
   obtain ⟨x0, x1, x2, x3, x4, x5, x6, x7, x8, x9, x10⟩ := pc_ex hrow k hkl
   rw [hqe]
   have HRD := hid ((HIN.out _ (List.getElem_mem hkl)).below h1.b)
   have HTM : Hid (l.take (k + 1) = l.take k ++ [l[k]]) := by unfold Hid; rw [List.take_add_one, List.getElem?_eq_getElem hkl]; rfl
   generalize l[k] = x at *
   obtain ⟨W9, hW9⟩ : ∃ W9, W9 = wr.alloc (.cells #[.int .i64 x.kind, .int .i64 x.file, .int .i64 x.line, .string x.l.name, .slice x.l.opers.p x.l.opers.l.length x.l.opers.c, .int .i64 x.v.add, .string x.v.plus, .string x.v.minus, .int .i64 x.size, .slice x.b.p x.b.l.length x.b.c, .int .i64 x.align] 64) := ⟨_, rfl⟩
   have HW9 := hid hW9
   have hb9 : Below wr.heap.size wr W9 := by rw [hW9]; exact alloc_below _ _
   have HX9 : Hid (BxP wr.heap.size x W9) := by unfold Hid BxP; rw [hW9]; exact heap_alloc_new _ _
   have HB9 := hid hb9
   have HRD9 := hid (HRD.out.below hb9)
   have hbl := HRD.out.b.cap
   have hbn := HRD.out.b.nil
   have hol := HRD.out.op.cap
   have hon := HRD.out.op.nil
   obtain ⟨BL, hBL⟩ : ∃ BL, BL = x.b.l.length := ⟨_, rfl⟩
   obtain ⟨OL, hOL⟩ : ∃ OL, OL = x.l.opers.l.length := ⟨_, rfl⟩
   have HBL := hid hBL
   have HOL := hid hOL
   rw [← hBL] at hbl
   rw [← hOL] at hol
   have hzx : wr.heap.size < W9.heap.size := by rw [hW9]; simp
   have hz1 : W.heap.size ≤ wr.heap.size := h1.b.size
   clear h1 hrow hqe hb9 hW9 e1 e2 ho1 hBL hOL
   go_upto_region 6 with (fail)
   rw [← HW9.out]
   clear x0 x1 x2 x3 x4 x5 x6 x7 x8 x9 x10
   obtain ⟨-, -, -, -, -, -, -, -, -, b9, -⟩ := box_cells HX9.out
   unfold Sl.val at b9
   rw [← HBL.out] at b9
   have HFB : Hid ((x.b.l.flatMap (fun n : Int => [Value.int .u8 n])).length = BL) := by unfold Hid; rw [flat_len (fun n : Int => [Value.int .u8 n]) 1 (fun _ => rfl), HBL.out]; omega
   have HFO : Hid ((x.l.opers.l.flatMap Oc.cells).length = OL * 15) := by unfold Hid; rw [flat_len Oc.cells 15 (fun _ => rfl), HOL.out]; omega
   have HST1 : Hid (∀ (w2 : World) (v2 : Value), w2.ownsRow 0 5 1 v2 BL (x.b.l.flatMap (fun n : Int => [Value.int .u8 n])) → W9.grownBy w2 (Value.slice none 0 0).ownBlock →
     ∃ bp bc, v2 = .slice bp BL bc ∧ SlOk w2 (fun n : Int => [Value.int .u8 n]) 1 ⟨bp, bc, x.b.l⟩ ∧ (∀ a, bp = some a → tagAt w2 a.block = some (5 + 1)) ∧ Below W9.heap.size W9 w2 ∧ BxP wr.heap.size x w2) := fun w2 v2 ho hg => by
    rw [HBL.out] at ho
    obtain ⟨bp, bc, e, hs, ht⟩ := sl_of_own (bytes := 1) ho (by rw [← HBL.out]; exact hbl)
    have hb := nil_below hg
    exact ⟨bp, bc, by rw [HBL.out]; exact e, hs, fun a ha => (ht a ha).1, hb, (hb.block _ hzx).trans HX9.out⟩
   have HST2 : Hid (∀ (w2 : World) (b : Value) (w3 : World) (v3 : Value), Below W9.heap.size W9 w2 → BxP wr.heap.size x w2 → w3.ownsRow 0 72 15 v3 OL (x.l.opers.l.flatMap Oc.cells) → (w2.setCell ⟨wr.heap.size, 9, none⟩ b).grownBy w3 (Value.slice none 0 0).ownBlock →
     ∃ lp lc, v3 = .slice lp OL lc ∧ SlOk w3 Oc.cells 120 ⟨lp, lc, x.l.opers.l⟩ ∧ (∀ a, lp = some a → tagAt w3 a.block = some (72 + 1)) ∧ Below (w2.setCell ⟨wr.heap.size, 9, none⟩ b).heap.size (w2.setCell ⟨wr.heap.size, 9, none⟩ b) w3 ∧ w3.frozen? ⟨wr.heap.size, 4, none⟩ = false ∧ w3.cell? ⟨wr.heap.size, 4, none⟩ = some (.slice x.l.opers.p OL x.l.opers.c)) := fun w2 b w3 v3 hb2 hx2 ho hg => by
    rw [HOL.out] at ho
    obtain ⟨lp, lc, e, hs, ht⟩ := sl_of_own (bytes := 120) ho (by rw [← HOL.out]; exact hol)
    have hb := nil_below hg
    have hx3 : (w2.setCell ⟨wr.heap.size, 9, none⟩ b).heap[wr.heap.size]? = some (.cells #[.int .i64 x.kind, .int .i64 x.file, .int .i64 x.line, .string x.l.name, .slice x.l.opers.p x.l.opers.l.length x.l.opers.c, .int .i64 x.v.add, .string x.v.plus, .string x.v.minus, .int .i64 x.size, b, .int .i64 x.align] 64 (0, 0)) := heap_setCell_same _ _ 9 _ _ _ hx2
    have hx4 := (hb.block _ (Array.getElem?_eq_some_iff.1 hx3).1).trans hx3
    refine ⟨lp, lc, by rw [HOL.out]; exact e, hs, fun a ha => (ht a ha).1, hb, frozen_of_row _ _ 4 _ _ hx4, ?_⟩
    rw [HOL.out]
    exact cell_of_row _ _ 4 _ _ _ hx4
   have HB9W : Hid (Below W.heap.size W W9) := H1.out.b.trans (HB9.out.mono hz1)
   have HRB : Hid (Row W9 x.b.p (x.b.l.flatMap (fun n : Int => [Value.int .u8 n]))) := HRD9.out.b.row
   have HRO : Hid (∀ (w2 : World) (b : Value), Below W9.heap.size W9 w2 → Row (w2.setCell ⟨wr.heap.size, 9, none⟩ b) x.l.opers.p (x.l.opers.l.flatMap Oc.cells)) := fun w2 b hb2 => HRD.out.op.row.below (((HB9.out.trans (hb2.mono (Nat.le_of_lt hzx)))).setCell (Nat.le_refl _) b)
   go_upto_region 8 with (first
     | ((with_reducible show wpList _ _ _ (⟨some 18, _, _, _, _, _⟩ :: _) _ _); go_loud (refine wpList_app EU8 rfl _ _ rfl 0 (.slice none 0 0) 0 [] rfl (World.ownsRow_nil _ _ _ _) x.b.p BL x.b.c (x.b.l.flatMap (fun n : Int => [Value.int .u8 n])) rfl (by rw [HFB.out]; omega) hbn HRB.out (u8s_ones _) (by unfold maxLen; omega) (by omega) (Nat.zero_le _) ?_); go_loud (intro v2 w2 ho hg hs; rw [Nat.zero_add, List.nil_append] at ho; obtain ⟨bp, bc, rfl, hso, hst, hb2, hx2⟩ := HST1.out _ _ ho hg; have c4 := cell_of_row _ _ 4 _ _ _ hx2; have c9 := cell_of_row _ _ 9 _ _ _ hx2; have f9 := frozen_of_row _ _ 9 _ _ hx2; simp only [PcR.cells, Sl.val, List.getElem?_toArray, List.getElem?_cons_zero, List.getElem?_cons_succ] at c4 c9; rw [← HOL.out] at c4; have HS1 := hid (And.intro hso (And.intro hst (And.intro hb2 hx2))); clear ho hg hs hso hst hb2 hx2))
     | ((with_reducible show wpList _ _ _ (⟨some 23, _, _, _, _, _⟩ :: _) _ _); go_loud (refine wpList_app EOper rfl _ _ rfl 0 (.slice none 0 0) 0 [] rfl (World.ownsRow_nil _ _ _ _) x.l.opers.p OL x.l.opers.c (x.l.opers.l.flatMap Oc.cells) rfl HFO.out hon (HRO.out _ _ HS1.out.2.2.1) (ocs_ones _) (by unfold maxLen; omega) (by omega) (Nat.zero_le _) ?_); go_loud (intro v3 w3 ho hg hs; rw [Nat.zero_add, List.nil_append] at ho; obtain ⟨lp, lc, rfl, hso, hst, hb3, g4, d4⟩ := HST2.out _ _ _ _ HS1.out.2.2.1 HS1.out.2.2.2 ho hg; have HS2 := hid (And.intro hso (And.intro hst hb3)); clear ho hg hs hso hst hb3)))
   obtain ⟨wf, hwf⟩ : ∃ wf, wf = w3.setCell ⟨wr.heap.size, 4, none⟩ (.slice lp OL lc) := ⟨_, rfl⟩
   obtain ⟨x', y1, y2, y3, y4⟩ : ∃ x', BxP wr.heap.size x' wf ∧ PcOk wf 0 x' ∧ x'.pl = x.pl ∧ Below wr.heap.size wr wf := by
    obtain ⟨q1, q2, q3, q4⟩ := HS1.out
    obtain ⟨r1, r2, r3⟩ := HS2.out
    rw [HBL.out] at r3
    obtain ⟨x', y1, y2, y3⟩ := piece_boxR HX9.out q3 q1 q2 r3 r1 r2
    rw [hwf, HOL.out]
    refine ⟨x', y1, y2, y3, ?_⟩
    have k1 := HB9.out.trans (q3.mono (Nat.le_of_lt hzx))
    have k2 : Below wr.heap.size wr (w2.setCell ⟨wr.heap.size, 9, none⟩ (.slice bp x.b.l.length bc)) := k1.setCell (Nat.le_refl _) _
    exact (k2.trans (r3.mono k2.size)).setCell (Nat.le_refl _) _
   rw [← hwf]
   have HBW := hid y4
   have HOK := hid y2
   have HPL := hid y3
   obtain ⟨z0, z1, z2, z3, z4, z5, z6, z7, z8, z9, z10⟩ := box_cells y1
   have HOA : Hid (∀ o, (wf.alloc o).ownsRow W.heap.size 64 11 (.slice vp k vc) k (l'.flatMap PcR.cells)) := fun o => own_below (own_below HO1.out y4) (alloc_below wf o)
   have hzf : wr.heap.size ≤ wf.heap.size := y4.size
   have HLL : Hid (l'.length = k) := by have := congrArg List.length HE.out.1; rw [List.length_map, List.length_map, List.length_take] at this; unfold Hid; omega
   clear hwf y1 y2 y3 y4 b9 c4 c9 f9 g4 d4 hol hon hbl hbn hzx HS1 HS2 HST1 HST2 HX9 HRD9
   go_wp2_with ((with_reducible show wpList _ _ _ (⟨some 29, _, _, _, _, _⟩ :: _) _ _); go_loud (refine wpList_app EPiece rfl _ _ rfl W.heap.size (.slice vp k vc) k (l'.flatMap PcR.cells) rfl (HOA.out _) _ 1 1 x'.cells rfl rfl (by intro h; cases h) (row_blkAt (heap_alloc_new _ _)) (pcr_ones _) (by unfold maxLen; omega) (by omega) (by simp; omega) ?_); go_loud (intro v5 w5 ho5 hg5 hs5; have HF := hid (H1.out.fin HBW.out HTM.out HPL.out HOK.out _ HE.out.1 HE.out.2 HO1.out ho5 hg5); clear ho5 hg5 hs5))
   exact ⟨⟨k + 1, by omega, by go_num, HF.out⟩, by simp [intOf]; omega⟩
  ·have hke : k = N := by omega
   subst hke
   go_wp2_with (fail)
   go_ret
   exact ⟨⟨_, l', rfl, by rw [← HN.out]; exact HO1.out, by rw [HE.out.1, List.take_of_length_le (by rw [← HN.out]; exact Nat.le_refl _)], HE.out.2⟩, H1.out.b⟩
end Go.Proofs.Ythlingholhjcnaa
namespace Go.Proofs.Ythlingholhjcnaa
open Go.RowKit
variable {W w w' : World}
def lessF (f g : Ft) : Bool := if f.file ≠ g.file then decide (f.file < g.file) else if f.line ≠ g.line then decide (f.line < g.line) else decide (f.err < g.err)
theorem less_any (f g : Ft) (W : World) : Calls Try.prog 18 #[.agg #[.int .i64 f.file, .int .i64 f.line, .int .i64 f.err], .agg #[.int .i64 g.file, .int .i64 g.line, .int .i64 g.err]] W fun e w' => e = .returned (.bool (lessF f g)) ∧ Below W.heap.size W w' := by
 obtain ⟨a, b, c⟩ := f
 obtain ⟨d, e, g⟩ := g
 unfold lessF
 dsimp only
 by_cases h1 : a = d
 ·have e1 : (a != d) = false := by simp [h1]
  rw [if_neg (fun h => h h1)]
  have H1 := hid h1
  clear h1
  by_cases h2 : b = e
  ·have e2 : (b != e) = false := by simp [h2]
   rw [if_neg (fun h => h h2)]
   clear h2
   go_enter Try.func18, Try.ntmps18
   go_wp2
   go_ret
   exact ⟨rfl, ((Below.refl _ _).alloc (Nat.le_refl _) _).alloc (by simp) _⟩
  ·have e2 : (b != e) = true := by simp [h2]
   rw [if_pos h2]
   clear h2
   go_enter Try.func18, Try.ntmps18
   go_wp2
   go_ret
   exact ⟨rfl, ((Below.refl _ _).alloc (Nat.le_refl _) _).alloc (by simp) _⟩
 ·have e1 : (a != d) = true := by simp [h1]
  rw [if_pos h1]
  clear h1
  go_enter Try.func18, Try.ntmps18
  go_wp2
  go_ret
  exact ⟨rfl, ((Below.refl _ _).alloc (Nat.le_refl _) _).alloc (by simp) _⟩
def putStep (f : Ft) (s : List Ft × Bool) (x : Ft) : List Ft × Bool := if (!s.2 && lessF f x) = true then ((s.1 ++ [f]) ++ [x], true) else (s.1 ++ [x], s.2)
def putP (f : Ft) (l : List Ft) : List Ft := if (l.foldl (putStep f) ([], false)).2 = true then (l.foldl (putStep f) ([], false)).1 else (l.foldl (putStep f) ([], false)).1 ++ [f]
theorem put_len (f : Ft) : ∀ (l : List Ft) (s : List Ft × Bool), (l.foldl (putStep f) s).1.length ≤ s.1.length + 2 * l.length
 | [], s => by simp
 | x :: l, s => by
  rw [List.foldl_cons]
  refine Nat.le_trans (put_len f l _) ?_
  unfold putStep
  split <;> simp <;> omega
structure PutI (W : World) (f : Ft) (s : List Ft × Bool) (v d : Value) (w : World) : Prop where
 own : w.ownsRow (W.heap.size + 1) 42 3 v s.1.length (s.1.flatMap Ft.cells)
 done : d = .bool s.2
 box : w.heap[W.heap.size]? = some (.cells f.cells.toArray 42 (0, 0))
 b : Below W.heap.size W w
theorem PutI.lt {f : Ft} {s : List Ft × Bool} {v d : Value} (h : PutI W f s v d w) : W.heap.size < w.heap.size := (Array.getElem?_eq_some_iff.1 h.box).1
theorem PutI.below {f : Ft} {s : List Ft × Bool} {v d : Value} (h : PutI W f s v d w) (hb : Below w.heap.size w w') : PutI W f s v d w' := ⟨own_below h.own hb, h.done, (hb.block _ h.lt).trans h.box, h.b.trans (hb.mono h.b.size)⟩
theorem PutI.app {f x : Ft} {s : List Ft × Bool} {v d v' d' : Value} {b' : Bool} (h : PutI W f s v d w) (o : Obj) (ho : w'.ownsRow (W.heap.size + 1) 42 3 v' (s.1.length + 1) (s.1.flatMap Ft.cells ++ x.cells)) (hg : (w.alloc o).grownBy w' v.ownBlock) (hd : d' = .bool b') : PutI W f (s.1 ++ [x], b') v' d' w' := by
 have hA := h.below (alloc_below w o)
 refine ⟨?_, hd, (hg.block _ hA.lt (fun e => by have := own_ge hA.own _ e.symm; omega)).trans hA.box, hA.b.grown hg hA.b.size (fun g e => by have := own_ge hA.own g e; omega)⟩
 show w'.ownsRow _ _ _ _ (s.1 ++ [x]).length ((s.1 ++ [x]).flatMap Ft.cells)
 rw [List.length_append, List.flatMap_append]
 simpa using ho
structure PuT (W : World) (f : Ft) (l : List Ft) (e : Ending) (w' : World) : Prop where
 ex : ∃ v, e = .returned v ∧ w'.ownsRow (W.heap.size + 1) 42 3 v (putP f l).length ((putP f l).flatMap Ft.cells)
 b : Below W.heap.size W w'
theorem ftr_cells {b o : Nat} {ys : List Ft} (h : Row w (some ⟨b, o, none⟩) (ys.flatMap Ft.cells)) (k : Nat) (hk : k < ys.length) :
  w.cell? ⟨b, o + k * 3, none⟩ = some (.int .i64 ys[k].file) ∧ w.cell? ⟨b, o + k * 3 + 1, none⟩ = some (.int .i64 ys[k].line) ∧ w.cell? ⟨b, o + k * 3 + 2, none⟩ = some (.int .i64 ys[k].err) :=
 ⟨row_cells Ft.cells 3 (fun _ => rfl) h k hk 0 (by decide), row_cells Ft.cells 3 (fun _ => rfl) h k hk 1 (by decide), row_cells Ft.cells 3 (fun _ => rfl) h k hk 2 (by decide)⟩
set_option maxRecDepth 40000 in
set_option maxHeartbeats 4000000 in
theorem fput_any (p : Option Addr) (c : Nat) (l : List Ft) (f : Ft) (W : World) (hrow : Row W p (l.flatMap Ft.cells)) (hlen : l.length ≤ 100000000) :
  Calls Try.prog 35 #[.slice p l.length c, .agg #[.int .i64 f.file, .int .i64 f.line, .int .i64 f.err]] W (PuT W f l) := by
 obtain ⟨W1, hW1⟩ : ∃ W1, W1 = W.alloc (.cells #[.int .i64 f.file, .int .i64 f.line, .int .i64 f.err] 42) := ⟨_, rfl⟩
 have h1 : PutI W f ([], false) (.slice none 0 0) (.bool false) W1 := ⟨World.ownsRow_nil _ _ _ _, rfl, by rw [hW1]; exact heap_alloc_new _ _, by rw [hW1]; exact alloc_below _ _⟩
 have HW1 := hid hW1
 have H1 := hid h1
 have HROW := hid hrow
 obtain ⟨N, hN⟩ : ∃ N, N = l.length := ⟨_, rfl⟩
 have HN := hid hN
 rw [← hN] at hlen ⊢
 clear hW1 h1 hrow hN
 go_enter Try.func35, Try.ntmps35
 go_upto_region 1 with (fail)
 rw [← HW1.out]
 go_wp2_with (fail)
 go_loopw [5, 6, 7] (fun v d i wr => ∃ (k : Nat), k ≤ N ∧ i = .int .i64 k ∧ PutI W f ((l.take k).foldl (putStep f) ([], false)) v d wr) (fun _ _ i _ => N - (intOf i).toNat)
 case atStart => exact ⟨0, Nat.zero_le _, rfl, H1.out⟩
 case round =>
  rename World => wr
  obtain ⟨k, hk, rfl, hi⟩ := hrel
  obtain ⟨s, hs⟩ : ∃ s, s = (l.take k).foldl (putStep f) ([], false) := ⟨_, rfl⟩
  have HS := hid hs
  have hsl : s.1.length ≤ 2 * k := by
   rw [hs]
   refine Nat.le_trans (put_len f _ _) ?_
   rw [List.length_take]; simp; omega
  rw [← hs] at hi
  have hd := hi.done
  subst hd
  have HI := hid hi
  obtain ⟨vp, vc, rfl, -⟩ := own_shape hi.own
  have hx0 := cell_of_row _ _ 0 _ _ _ hi.box
  have hx1 := cell_of_row _ _ 1 _ _ _ hi.box
  have hx2 := cell_of_row _ _ 2 _ _ _ hi.box
  simp only [Ft.cells, List.getElem?_toArray, List.getElem?_cons_zero, List.getElem?_cons_succ] at hx0 hx1 hx2
  have hbz : W.heap.size + 1 ≤ wr.heap.size := hi.lt
  by_cases hlt : k < N
  ·have hkI : (k : Int) < N := by omega
   have hkl : k < l.length := by rw [← HN.out]; exact hlt
   have hrow := HROW.out.below hi.b
   obtain ⟨b, o, rfl, hbl, -⟩ := hrow.at (by rw [flat_len Ft.cells 3 (fun _ => rfl)]; omega)
   obtain ⟨u0, u1, u2⟩ := ftr_cells hrow k hkl
   have HST : Hid ((l.take (k + 1)).foldl (putStep f) ([], false) = putStep f s l[k]) := by
    unfold Hid
    rw [List.take_add_one, List.getElem?_eq_getElem hkl, Option.toList_some, List.foldl_append, ← hs]; rfl
   have HU : Hid (∀ w : World, Below W.heap.size W w → w.cell? ⟨b, o + k * 3, none⟩ = some (.int .i64 l[k].file) ∧ w.cell? ⟨b, o + k * 3 + 1, none⟩ = some (.int .i64 l[k].line) ∧ w.cell? ⟨b, o + k * 3 + 2, none⟩ = some (.int .i64 l[k].err)) := fun w hw => ftr_cells (HROW.out.below hw) k hkl
   generalize l[k] = x at *
   have HLS := hid (fun w => less_any f x w)
   obtain ⟨sd, hsd⟩ : ∃ sd, sd = s.2 := ⟨_, rfl⟩
   have HSD := hid hsd
   rw [← hsd]
   obtain ⟨B, hB⟩ : ∃ B, B = (!sd && lessF f x) := ⟨_, rfl⟩
   have HB := hid hB
   clear hi hrow hs hsd hB
   go_upto_region 6 with (fail)
   go_cut [23] from 14 to 22 (fun v wx => v = .bool B ∧ Below wr.heap.size wr wx)
   case first =>
    obtain ⟨wd, hwd⟩ : ∃ wd, wd = wr.drew := ⟨_, rfl⟩
    have hbd : Below wr.heap.size wr wd := by rw [hwd]; exact (Below.refl _ _).drew
    have y0 := (hbd.cell (p := ⟨W.heap.size, 0, none⟩) hbz).trans hx0
    have y1 := (hbd.cell (p := ⟨W.heap.size, 1, none⟩) hbz).trans hx1
    have y2 := (hbd.cell (p := ⟨W.heap.size, 2, none⟩) hbz).trans hx2
    have z0 := (hbd.cell (p := ⟨b, o + k * 3, none⟩) hbl).trans u0
    have z1 := (hbd.cell (p := ⟨b, o + k * 3 + 1, none⟩) hbl).trans u1
    have z2 := (hbd.cell (p := ⟨b, o + k * 3 + 2, none⟩) hbl).trans u2
    have HBD := hid hbd
    clear hbd u0 u1 u2 hx0 hx1 hx2
    cases sd with
    | true =>
     refine wp_region_held_drew (S := fun _ => True) (by kernel_rfl) trivial (fun hHeld => ?_)
     rw [← hwd] at *
     refine wpAnyH_take (i := 0) (oi := { dst := some 14, op := Op.move (Operand.tmp 6), type := 4, pos := "ref.go:210", after := #[], guard := none }) (v := ?pav0) rfl (by kernel_rfl) (by kernel_rfl) (by kernel_rfl) (fun _ _ _ h => h) (Or.inl ⟨by rfl, ?pah0⟩) (by assumption) ?par0
     case pah0 => ((intro w hSw; (try dsimp only at hSw); go_simp); try with_reducible rfl)
     try simp only [Act.put, List.setIfInBounds_toArray, List.set_cons_zero, List.set_cons_succ]
     refine wpAnyH_take (i := 1) (oi := { dst := some 15, op := Op.unOp UnOp.not 4 (Operand.tmp 14), type := 4, pos := "ref.go:210", after := #[{ on := 0, ground := Ground.data }], guard := none }) (v := ?pav1) rfl (by kernel_rfl) (by kernel_rfl) (by kernel_rfl) (fun _ _ _ h => h) (Or.inl ⟨by rfl, ?pah1⟩) (by assumption) ?par1
     case pah1 => ((intro w hSw; (try dsimp only at hSw); go_simp); try with_reducible rfl)
     try simp only [Act.put, List.setIfInBounds_toArray, List.set_cons_zero, List.set_cons_succ]
     refine wpAnyH_take (i := 2) (oi := { dst := some 16, op := Op.move (Operand.tmp 15), type := 4, pos := "ref.go:210", after := #[{ on := 1, ground := Ground.data }], guard := none }) (v := ?pav2) rfl (by kernel_rfl) (by kernel_rfl) (by kernel_rfl) (fun _ _ _ h => h) (Or.inl ⟨by rfl, ?pah2⟩) (by assumption) ?par2
     case pah2 => ((intro w hSw; (try dsimp only at hSw); go_simp); try with_reducible rfl)
     try simp only [Act.put, List.setIfInBounds_toArray, List.set_cons_zero, List.set_cons_succ]
     refine wpAnyH_take (i := 3) (oi := { dst := some 17, op := Op.load 42 (Operand.tmp 3), type := 42, pos := "ref.go:210", after := #[{ on := 2, ground := Ground.guard }], guard := some (2, true) }) (v := undef) rfl (by kernel_rfl) (by kernel_rfl) (by kernel_rfl) (fun _ _ _ h => h) (Or.inr ⟨by rfl, rfl⟩) (by assumption) ?_
     try simp only [Act.put, List.setIfInBounds_toArray, List.set_cons_zero, List.set_cons_succ]
     refine wpAnyH_take (i := 4) (oi := { dst := some 18, op := Op.move (Operand.tmp 0), type := 33, pos := "ref.go:210", after := #[{ on := 2, ground := Ground.guard }], guard := some (2, true) }) (v := undef) rfl (by kernel_rfl) (by kernel_rfl) (by kernel_rfl) (fun _ _ _ h => h) (Or.inr ⟨by rfl, rfl⟩) (by assumption) ?_
     try simp only [Act.put, List.setIfInBounds_toArray, List.set_cons_zero, List.set_cons_succ]
     refine wpAnyH_take (i := 5) (oi := { dst := some 19, op := Op.move (Operand.tmp 7), type := 3, pos := "ref.go:210", after := #[{ on := 2, ground := Ground.guard }], guard := some (2, true) }) (v := undef) rfl (by kernel_rfl) (by kernel_rfl) (by kernel_rfl) (fun _ _ _ h => h) (Or.inr ⟨by rfl, rfl⟩) (by assumption) ?_
     try simp only [Act.put, List.setIfInBounds_toArray, List.set_cons_zero, List.set_cons_succ]
     refine wpAnyH_take (i := 6) (oi := { dst := some 20, op := Op.indexAddr 33 (Operand.tmp 18) (Operand.tmp 19), type := 0, pos := "ref.go:210", after := #[{ on := 4, ground := Ground.data }, { on := 5, ground := Ground.data }, { on := 2, ground := Ground.guard }], guard := some (2, true) }) (v := undef) rfl (by kernel_rfl) (by kernel_rfl) (by kernel_rfl) (fun _ _ _ h => h) (Or.inr ⟨by rfl, rfl⟩) (by assumption) ?_
     try simp only [Act.put, List.setIfInBounds_toArray, List.set_cons_zero, List.set_cons_succ]
     refine wpAnyH_take (i := 7) (oi := { dst := some 21, op := Op.load 42 (Operand.tmp 20), type := 42, pos := "ref.go:210", after := #[{ on := 6, ground := Ground.data }, { on := 2, ground := Ground.guard }], guard := some (2, true) }) (v := undef) rfl (by kernel_rfl) (by kernel_rfl) (by kernel_rfl) (fun _ _ _ h => h) (Or.inr ⟨by rfl, rfl⟩) (by assumption) ?_
     try simp only [Act.put, List.setIfInBounds_toArray, List.set_cons_zero, List.set_cons_succ]
     refine wpAnyH_take (i := 8) (oi := { dst := some 22, op := Op.call { callee := Callee.value (Operand.func 18), args := #[Operand.tmp 17, Operand.tmp 21], argTypes := #[42, 42] }, type := 4, pos := "ref.go:210", after := #[{ on := 3, ground := Ground.data }, { on := 7, ground := Ground.data }, { on := 2, ground := Ground.chain }, { on := 2, ground := Ground.guard }], guard := some (2, true) }) (v := undef) rfl (by kernel_rfl) (by kernel_rfl) (by kernel_rfl) (fun _ _ _ h => h) (Or.inr ⟨by rfl, rfl⟩) (by assumption) ?_
     try simp only [Act.put, List.setIfInBounds_toArray, List.set_cons_zero, List.set_cons_succ]
     refine wpAnyH_take (i := 9) (oi := { dst := some 23, op := Op.pick (Operand.tmp 16) (Operand.tmp 22) (Operand.const (Value.bool false)), type := 4, pos := "ref.go:210", after := #[{ on := 2, ground := Ground.data }, { on := 8, ground := Ground.data }], guard := none }) (v := ?pav9) rfl (by kernel_rfl) (by kernel_rfl) (by kernel_rfl) (fun _ _ _ h => h) (Or.inl ⟨by rfl, ?pah9⟩) (by assumption) ?par9
     case pah9 => ((intro w hSw; (try dsimp only at hSw); go_simp); try with_reducible rfl)
     try simp only [Act.put, List.setIfInBounds_toArray, List.set_cons_zero, List.set_cons_succ]
     refine wpAnyH_done (by kernel_rfl) ?_ _
     go_wp2_with fail
     go_meet
     exact ⟨by rw [HB.out]; rfl, HBD.out⟩
    | false =>
     refine wp_region_held_drew (S := fun _ => True) (by kernel_rfl) trivial (fun hHeld => ?_)
     rw [← hwd] at *
     refine wpAnyH_take (i := 0) (oi := { dst := some 14, op := Op.move (Operand.tmp 6), type := 4, pos := "ref.go:210", after := #[], guard := none }) (v := ?pbv0) rfl (by kernel_rfl) (by kernel_rfl) (by kernel_rfl) (fun _ _ _ h => h) (Or.inl ⟨by rfl, ?pbh0⟩) (by assumption) ?pbr0
     case pbh0 => ((intro w hSw; (try dsimp only at hSw); go_simp); try with_reducible rfl)
     try simp only [Act.put, List.setIfInBounds_toArray, List.set_cons_zero, List.set_cons_succ]
     refine wpAnyH_take (i := 1) (oi := { dst := some 15, op := Op.unOp UnOp.not 4 (Operand.tmp 14), type := 4, pos := "ref.go:210", after := #[{ on := 0, ground := Ground.data }], guard := none }) (v := ?pbv1) rfl (by kernel_rfl) (by kernel_rfl) (by kernel_rfl) (fun _ _ _ h => h) (Or.inl ⟨by rfl, ?pbh1⟩) (by assumption) ?pbr1
     case pbh1 => ((intro w hSw; (try dsimp only at hSw); go_simp); try with_reducible rfl)
     try simp only [Act.put, List.setIfInBounds_toArray, List.set_cons_zero, List.set_cons_succ]
     refine wpAnyH_take (i := 2) (oi := { dst := some 16, op := Op.move (Operand.tmp 15), type := 4, pos := "ref.go:210", after := #[{ on := 1, ground := Ground.data }], guard := none }) (v := ?pbv2) rfl (by kernel_rfl) (by kernel_rfl) (by kernel_rfl) (fun _ _ _ h => h) (Or.inl ⟨by rfl, ?pbh2⟩) (by assumption) ?pbr2
     case pbh2 => ((intro w hSw; (try dsimp only at hSw); go_simp); try with_reducible rfl)
     try simp only [Act.put, List.setIfInBounds_toArray, List.set_cons_zero, List.set_cons_succ]
     refine wpAnyH_take (i := 4) (oi := { dst := some 18, op := Op.move (Operand.tmp 0), type := 33, pos := "ref.go:210", after := #[{ on := 2, ground := Ground.guard }], guard := some (2, true) }) (v := ?pbv4) rfl (by kernel_rfl) (by kernel_rfl) (by kernel_rfl) (fun _ _ _ h => h) (Or.inl ⟨by rfl, ?pbh4⟩) (by assumption) ?pbr4
     case pbh4 => ((intro w hSw; (try dsimp only at hSw); go_simp); try with_reducible rfl)
     try simp only [Act.put, List.setIfInBounds_toArray, List.set_cons_zero, List.set_cons_succ]
     refine wpAnyH_take (i := 5) (oi := { dst := some 19, op := Op.move (Operand.tmp 7), type := 3, pos := "ref.go:210", after := #[{ on := 2, ground := Ground.guard }], guard := some (2, true) }) (v := ?pbv5) rfl (by kernel_rfl) (by kernel_rfl) (by kernel_rfl) (fun _ _ _ h => h) (Or.inl ⟨by rfl, ?pbh5⟩) (by assumption) ?pbr5
     case pbh5 => ((intro w hSw; (try dsimp only at hSw); go_simp); try with_reducible rfl)
     try simp only [Act.put, List.setIfInBounds_toArray, List.set_cons_zero, List.set_cons_succ]
     refine wpAnyH_take (i := 6) (oi := { dst := some 20, op := Op.indexAddr 33 (Operand.tmp 18) (Operand.tmp 19), type := 0, pos := "ref.go:210", after := #[{ on := 4, ground := Ground.data }, { on := 5, ground := Ground.data }, { on := 2, ground := Ground.guard }], guard := some (2, true) }) (v := ?pbv6) rfl (by kernel_rfl) (by kernel_rfl) (by kernel_rfl) (fun _ _ _ h => h) (Or.inl ⟨by rfl, ?pbh6⟩) (by assumption) ?pbr6
     case pbh6 => ((intro w hSw; (try dsimp only at hSw); go_simp); try with_reducible rfl)
     try simp only [Act.put, List.setIfInBounds_toArray, List.set_cons_zero, List.set_cons_succ]
     refine wpAnyH_ready (rs := [3, 7]) (by kernel_rfl) (by simp) ?_
     refine AllReadyH.cons (o := { dst := some 17, op := Op.load 42 (Operand.tmp 3), type := 42, pos := "ref.go:210", after := #[{ on := 2, ground := Ground.guard }], guard := some (2, true) }) rfl (fun K hK => ?_) ?_
     ·go_simp; refine hK.out _ _ trivial (fun hHeld => ?_)
      clear hK K
      try simp only [Act.put, List.setIfInBounds_toArray, List.set_cons_zero, List.set_cons_succ]
      refine wpAnyH_ready (rs := [7]) (by kernel_rfl) (by simp) ?_
      refine AllReadyH.cons (o := { dst := some 21, op := Op.load 42 (Operand.tmp 20), type := 42, pos := "ref.go:210", after := #[{ on := 6, ground := Ground.data }, { on := 2, ground := Ground.guard }], guard := some (2, true) }) rfl (fun K hK => ?_) AllReadyH.nil
      go_simp; refine hK.out _ _ trivial (fun hHeld => ?_)
      clear hK K
      try simp only [Act.put, List.setIfInBounds_toArray, List.set_cons_zero, List.set_cons_succ]
      refine wpAnyH_ready (rs := [8]) (by kernel_rfl) (by simp) ?_
      refine AllReadyH.cons (o := { dst := some 22, op := Op.call { callee := Callee.value (Operand.func 18), args := #[Operand.tmp 17, Operand.tmp 21], argTypes := #[42, 42] }, type := 4, pos := "ref.go:210", after := #[{ on := 3, ground := Ground.data }, { on := 7, ground := Ground.data }, { on := 2, ground := Ground.chain }, { on := 2, ground := Ground.guard }], guard := some (2, true) }) rfl (fun K hK => ?_) AllReadyH.nil
      go_simp; go_at_call 18; (with_reducible refine (HLS.out _).mono ?_); rintro e w2 ⟨rfl, hb2⟩; have HB2 := hid hb2; clear hb2; refine hK.out _ _ trivial (fun hHeld => ?_)
      clear hK K
      try simp only [Act.put, List.setIfInBounds_toArray, List.set_cons_zero, List.set_cons_succ]
      refine wpAnyH_take (i := 9) (oi := { dst := some 23, op := Op.pick (Operand.tmp 16) (Operand.tmp 22) (Operand.const (Value.bool false)), type := 4, pos := "ref.go:210", after := #[{ on := 2, ground := Ground.data }, { on := 8, ground := Ground.data }], guard := none }) (v := ?pbav9) rfl (by kernel_rfl) (by kernel_rfl) (by kernel_rfl) (fun _ _ _ h => h) (Or.inl ⟨by rfl, ?pbah9⟩) (by assumption) ?pbar9
      case pbah9 => ((intro w hSw; (try dsimp only at hSw); go_simp); try with_reducible rfl)
      try simp only [Act.put, List.setIfInBounds_toArray, List.set_cons_zero, List.set_cons_succ]
      refine wpAnyH_done (by kernel_rfl) ?_ _
      go_wp2_with fail
      go_meet
      exact ⟨by rw [HB.out]; simp, HBD.out.trans (HB2.out.mono HBD.out.size)⟩
     refine AllReadyH.cons (o := { dst := some 21, op := Op.load 42 (Operand.tmp 20), type := 42, pos := "ref.go:210", after := #[{ on := 6, ground := Ground.data }, { on := 2, ground := Ground.guard }], guard := some (2, true) }) rfl (fun K hK => ?_) AllReadyH.nil
     go_simp; refine hK.out _ _ trivial (fun hHeld => ?_)
     clear hK K
     try simp only [Act.put, List.setIfInBounds_toArray, List.set_cons_zero, List.set_cons_succ]
     refine wpAnyH_ready (rs := [3]) (by kernel_rfl) (by simp) ?_
     refine AllReadyH.cons (o := { dst := some 17, op := Op.load 42 (Operand.tmp 3), type := 42, pos := "ref.go:210", after := #[{ on := 2, ground := Ground.guard }], guard := some (2, true) }) rfl (fun K hK => ?_) AllReadyH.nil
     go_simp; refine hK.out _ _ trivial (fun hHeld => ?_)
     clear hK K
     try simp only [Act.put, List.setIfInBounds_toArray, List.set_cons_zero, List.set_cons_succ]
     refine wpAnyH_ready (rs := [8]) (by kernel_rfl) (by simp) ?_
     refine AllReadyH.cons (o := { dst := some 22, op := Op.call { callee := Callee.value (Operand.func 18), args := #[Operand.tmp 17, Operand.tmp 21], argTypes := #[42, 42] }, type := 4, pos := "ref.go:210", after := #[{ on := 3, ground := Ground.data }, { on := 7, ground := Ground.data }, { on := 2, ground := Ground.chain }, { on := 2, ground := Ground.guard }], guard := some (2, true) }) rfl (fun K hK => ?_) AllReadyH.nil
     go_simp; go_at_call 18; (with_reducible refine (HLS.out _).mono ?_); rintro e w2 ⟨rfl, hb2⟩; have HB2 := hid hb2; clear hb2; refine hK.out _ _ trivial (fun hHeld => ?_)
     clear hK K
     try simp only [Act.put, List.setIfInBounds_toArray, List.set_cons_zero, List.set_cons_succ]
     refine wpAnyH_take (i := 9) (oi := { dst := some 23, op := Op.pick (Operand.tmp 16) (Operand.tmp 22) (Operand.const (Value.bool false)), type := 4, pos := "ref.go:210", after := #[{ on := 2, ground := Ground.data }, { on := 8, ground := Ground.data }], guard := none }) (v := ?pbbv9) rfl (by kernel_rfl) (by kernel_rfl) (by kernel_rfl) (fun _ _ _ h => h) (Or.inl ⟨by rfl, ?pbbh9⟩) (by assumption) ?pbbr9
     case pbbh9 => ((intro w hSw; (try dsimp only at hSw); go_simp); try with_reducible rfl)
     try simp only [Act.put, List.setIfInBounds_toArray, List.set_cons_zero, List.set_cons_succ]
     refine wpAnyH_done (by kernel_rfl) ?_ _
     go_wp2_with fail
     go_meet
     exact ⟨by rw [HB.out]; simp, HBD.out.trans (HB2.out.mono HBD.out.size)⟩
   case rest =>
    rename World => w7
    obtain ⟨rfl, hb7⟩ := hcut
    have hi7 := HI.out.below hb7
    have HI7 := hid hi7
    have hx0 := cell_of_row _ _ 0 _ _ _ hi7.box
    have hx1 := cell_of_row _ _ 1 _ _ _ hi7.box
    have hx2 := cell_of_row _ _ 2 _ _ _ hi7.box
    simp only [Ft.cells, List.getElem?_toArray, List.getElem?_cons_zero, List.getElem?_cons_succ] at hx0 hx1 hx2
    obtain ⟨u0, u1, u2⟩ := HU.out _ hi7.b
    have hbz7 : W.heap.size + 1 ≤ w7.heap.size := hi7.lt
    clear hb7 hi7
    have HSD2 := HSD.out
    have HB2 := HB.out
    cases B with
    | true =>
     have HP : Hid (putStep f s x = ((s.1 ++ [f]) ++ [x], true)) := by
      unfold Hid putStep
      rw [← HSD2, ← HB2, if_pos rfl]
     clear HSD2 HB2
     go_wp2_with (first
      | ((with_reducible show wpList _ _ _ (⟨some 27, _, _, _, _, _⟩ :: _) _ _); go_loud (refine wpList_app EFault rfl _ _ rfl (W.heap.size + 1) (.slice vp s.1.length vc) s.1.length (s.1.flatMap Ft.cells) rfl (own_below HI7.out.own (alloc_below _ _)) _ 1 1 (Ft.cells f) rfl rfl (by intro h; cases h) (row_blkAt (heap_alloc_new _ _)) (ft_ones _) (by unfold maxLen; omega) (by omega) (by simp; omega) ?_); go_loud (intro v8 w8 ho8 hg8 hs8; obtain ⟨vp8, vc8, rfl, -⟩ := own_shape ho8; have hi8 := HI7.out.app (b' := true) (d' := .bool true) _ ho8 hg8 rfl; obtain ⟨u0, u1, u2⟩ := HU.out _ hi8.b; have hbz8 : W.heap.size + 1 ≤ w8.heap.size := hi8.lt; have HI8 := hid hi8; clear ho8 hg8 hs8 hi8))
      | ((with_reducible show wpList _ _ _ (⟨some 34, _, _, _, _, _⟩ :: _) _ _); go_loud (refine wpList_app EFault rfl _ _ rfl (W.heap.size + 1) (.slice vp8 (s.1.length + 1) vc8) (s.1.length + 1) ((s.1 ++ [f]).flatMap Ft.cells) rfl (by have q := own_below HI8.out.own (alloc_below _ (.cells x.cells.toArray 42)); rw [List.length_append] at q; exact q) _ 1 1 (Ft.cells x) rfl rfl (by intro h; cases h) (row_blkAt (heap_alloc_new _ _)) (ft_ones _) (by unfold maxLen; omega) (by omega) (by simp; omega) ?_); go_loud (intro v9 w9 ho9 hg9 hs9; have hi9 := HI8.out.app (b' := true) (d' := .bool true) (v' := v9) (x := x) _ (by rw [List.length_append]; exact ho9) hg9 rfl; obtain ⟨vp9, vc9, rfl, -⟩ := own_shape ho9; have HI9 := hid hi9; clear ho9 hg9 hs9 hi9)))
     exact ⟨⟨k + 1, by omega, by go_num, by rw [HST.out, HP.out]; exact HI9.out⟩, by simp [intOf]; omega⟩
    | false =>
     have HP : Hid (putStep f s x = (s.1 ++ [x], s.2)) := by
      unfold Hid putStep
      rw [← HSD2, ← HB2, if_neg (by decide)]
     clear HSD2 HB2
     go_wp2_with ((with_reducible show wpList _ _ _ (⟨some 34, _, _, _, _, _⟩ :: _) _ _); go_loud (refine wpList_app EFault rfl _ _ rfl (W.heap.size + 1) (.slice vp s.1.length vc) s.1.length (s.1.flatMap Ft.cells) rfl (own_below HI7.out.own (alloc_below _ _)) _ 1 1 (Ft.cells x) rfl rfl (by intro h; cases h) (row_blkAt (heap_alloc_new _ _)) (ft_ones _) (by unfold maxLen; omega) (by omega) (by simp; omega) ?_); go_loud (intro v9 w9 ho9 hg9 hs9; have hi9 := HI7.out.app (b' := s.2) (d' := .bool sd) (v' := v9) (x := x) _ ho9 hg9 (by rw [HSD.out]); obtain ⟨vp9, vc9, rfl, -⟩ := own_shape ho9; have HI9 := hid hi9; clear ho9 hg9 hs9 hi9))
     exact ⟨⟨k + 1, by omega, by go_num, by rw [HST.out, HP.out]; exact HI9.out⟩, by simp [intOf]; omega⟩
  ·have hke : k = N := by omega
   subst hke
   rw [List.take_of_length_le (by rw [HN.out]; exact Nat.le_refl _)] at hs
   have HS2 := hid hs
   obtain ⟨sd, hsd⟩ : ∃ sd, sd = s.2 := ⟨_, rfl⟩
   have HSD := hid hsd
   rw [← hsd]
   clear hi hs hsd
   have HSD2 := HSD.out
   cases sd with
   | true =>
    have HP : Hid (putP f l = s.1) := by
     unfold Hid putP
     rw [← HS2.out, ← HSD2, if_pos rfl]
    clear HSD2
    go_wp2_with fail
    go_ret
    exact ⟨⟨_, rfl, by rw [HP.out]; exact HI.out.own⟩, HI.out.b⟩
   | false =>
    have HP : Hid (putP f l = s.1 ++ [f]) := by
     unfold Hid putP
     rw [← HS2.out, ← HSD2, if_neg (by decide)]
    clear HSD2
    go_wp2_with ((with_reducible show wpList _ _ _ (⟨some 40, _, _, _, _, _⟩ :: _) _ _); go_loud (refine wpList_app EFault rfl _ _ rfl (W.heap.size + 1) (.slice vp s.1.length vc) s.1.length (s.1.flatMap Ft.cells) rfl (own_below HI.out.own (alloc_below _ _)) _ 1 1 (Ft.cells f) rfl rfl (by intro h; cases h) (row_blkAt (heap_alloc_new _ _)) (ft_ones _) (by unfold maxLen; omega) (by omega) (by simp; omega) ?_); go_loud (intro v9 w9 ho9 hg9 hs9; have hi9 := HI.out.app (b' := true) (d' := .bool true) (v' := v9) (x := f) _ ho9 hg9 rfl; obtain ⟨vp9, vc9, rfl, -⟩ := own_shape ho9; have HI9 := hid hi9; clear ho9 hg9 hs9 hi9))
    go_ret
    exact ⟨⟨_, rfl, by rw [HP.out]; exact HI9.out.own⟩, HI9.out.b⟩
end Go.Proofs.Ythlingholhjcnaa
namespace Go.Proofs.Ythlingholhjcnaa
open Go.RowKit
variable {W w w' : World}
def putTot (f : Ft) (s : List Ft × Bool) : List Ft := if s.2 = true then s.1 else s.1 ++ [f]
theorem putTot_step (f : Ft) (s : List Ft × Bool) (x : Ft) : (putTot f (putStep f s x)).Perm (putTot f s ++ [x]) := by
 obtain ⟨l, d⟩ := s
 unfold putTot putStep
 cases d with
 | true => simp
 | false =>
  cases hl : lessF f x with
  | true => simp
  | false =>
   simp
   exact (List.Perm.swap f x []).append_left l |>.symm |>.symm
theorem putTot_fold (f : Ft) : ∀ (l : List Ft) (s : List Ft × Bool), (putTot f (l.foldl (putStep f) s)).Perm (putTot f s ++ l)
 | [], s => by simp
 | x :: l, s => by
  rw [List.foldl_cons]
  have h1 := putTot_fold f l (putStep f s x)
  have h2 := (putTot_step f s x).append_right l
  rw [List.append_assoc] at h2
  exact h1.trans h2
theorem putP_perm (f : Ft) (l : List Ft) : (putP f l).Perm (f :: l) := putTot_fold f l ([], false)
theorem putP_len (f : Ft) (l : List Ft) : (putP f l).length = l.length + 1 := (putP_perm f l).length_eq
def dupsR (ms : List Mk) : Nat → List Ft
 | 0 => []
 | k + 1 => match ms[k]? with
  | some x => if (ms.take k).any (fun y => decide (y.name = x.name)) = true then putP ⟨x.file, x.line, 5⟩ (dupsR ms k) else dupsR ms k
  | none => dupsR ms k
def longR (ps : List PtR) (l0 : List Ft) : Nat → List Ft
 | 0 => l0
 | k + 1 => match ps[64 + k]? with
  | some y => putP ⟨y.file, y.line, 3⟩ (longR ps l0 k)
  | none => longR ps l0 k
theorem dupsR_len (ms : List Mk) : ∀ k, (dupsR ms k).length ≤ k
 | 0 => Nat.le_refl _
 | k + 1 => by
  have := dupsR_len ms k
  unfold dupsR
  split
  ·split
   ·rw [putP_len]; omega
   ·omega
  ·omega
theorem longR_len (ps : List PtR) (l0 : List Ft) : ∀ k, (longR ps l0 k).length ≤ l0.length + k
 | 0 => Nat.le_refl _
 | k + 1 => by
  have := longR_len ps l0 k
  unfold longR
  split
  ·rw [putP_len]; omega
  ·omega
structure FaI (W : World) (ub : List Value) (L : List Ft) (v : Value) (w : World) : Prop where
 ex : ∃ p c, v = .slice p L.length c ∧ Row w p (L.flatMap Ft.cells)
 box : w.heap[W.heap.size]? = some (.cells ub.toArray 32 (0, 0))
 b : Below W.heap.size W w
theorem FaI.lt {ub : List Value} {L : List Ft} {v : Value} (h : FaI W ub L v w) : W.heap.size < w.heap.size := (Array.getElem?_eq_some_iff.1 h.box).1
theorem FaI.below {ub : List Value} {L : List Ft} {v : Value} (h : FaI W ub L v w) (hb : Below w.heap.size w w') : FaI W ub L v w' := by
 obtain ⟨p, c, e, hr⟩ := h.ex
 exact ⟨⟨p, c, e, hr.below hb⟩, (hb.block _ h.lt).trans h.box, h.b.trans (hb.mono h.b.size)⟩
theorem FaI.put {ub : List Value} {L : List Ft} {v v' : Value} {f : Ft} (h : FaI W ub L v w) (hp : PuT w f L (.returned v') w') : FaI W ub (putP f L) v' w' := by
 obtain ⟨v2, e, ho⟩ := hp.ex
 cases e
 obtain ⟨p, c, e, hr, -⟩ := own_sh ho
 have := h.below hp.b
 exact ⟨⟨p, c, e, hr⟩, this.box, this.b⟩
structure FaT (W : World) (L : List Ft) (e : Ending) (w' : World) : Prop where
 ex : ∃ p c, e = .returned (.slice p L.length c) ∧ Row w' p (L.flatMap Ft.cells)
 b : Below W.heap.size W w'
end Go.Proofs.Ythlingholhjcnaa
