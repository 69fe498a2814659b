/-
  The document's Clone.
-/
import Derived.Test.YteccpmmedpkddaaJN8
namespace Go.Proofs.Yteccpmmedpkddaa
open Go.RowKit
variable {W w w' : World} {B k : Nat} {secs : List Sc} {syms : List Sy} {sv yv : Value}
theorem EU8 : Elem Try.prog 37 5 1 1 (.int .u8 0) := Elem.mk' Try.underlying37 (by kernel_rfl) rfl (by decide)
theorem u8_ones (l : List Int) : ∀ u ∈ l.map (Value.int .u8), u.oneCell' = true := fun u hu => by
  obtain ⟨n, -, rfl⟩ := List.mem_map.1 hu
  rfl
/-- What either Clone gives. -/
structure CloR (W : World) (o : Ob) (e : Ending) (w' : World) : Prop where
  ex : ∃ sv yv secs, e = .returned (.agg #[sv, yv]) ∧ FrV W.heap.size w' sv yv secs o.syms secs.length ∧ secs.map Sc.con = o.secs.map Sc.con
  b : Below W.heap.size W w'
theorem CloT.r {o : Ob} {e : Ending} (h : CloT W o e w') : CloR W o e w' := by
  obtain ⟨⟨gs, gy, secs, rfl, h1, h2⟩, hb⟩ := h
  have hl : secs.length = o.secs.length := by simpa using congrArg List.length h2
  exact ⟨⟨_, _, secs, rfl, by rw [← hl]; exact h1, h2⟩, hb⟩
theorem FrV.addS (h : FrV B w sv yv secs syms secs.length) (hB : B ≤ w.heap.size) {s : Sc} (hs : FrS B w s) (hap : ∀ (i : Nat) (t : Sc), secs[i]? = some t → Apart (dV t) (dV s) ∧ Apart (rV t) (rV s)) {sv' : Value} (ho : w'.ownsRow B 40 6 sv' (secs.length + 1) (secs.flatMap Sc.cells ++ s.cells)) (hg : w.grownBy w' sv.ownBlock) :
    FrV B w' sv' yv (secs ++ [s]) syms (secs ++ [s]).length := by
  have hl : Lies B (fun x => x ≠ 40 + 1) w w' := Lies.grown hg (fun g e => ⟨own_tag h.os e, own_ge h.os g e⟩) (fun hn => hn rfl) hB
  have hget : ∀ (i : Nat) (t : Sc), (secs ++ [s])[i]? = some t → (i < secs.length ∧ secs[i]? = some t) ∨ (i = secs.length ∧ t = s) := fun i t ht => by
    by_cases hi : i < secs.length
    · rw [List.getElem?_append_left hi] at ht; exact .inl ⟨hi, ht⟩
    · rw [List.getElem?_append_right (by omega)] at ht
      have : i - secs.length = 0 := by
        apply Classical.byContradiction; intro hn
        rw [List.getElem?_eq_none (by simp; omega)] at ht; cases ht
      rw [this] at ht; simp at ht
      exact .inr ⟨by omega, ht.symm⟩
  refine ⟨?_, hl.own h.oy (by decide), fun i t _ ht => ?_, fun i j t u hij _ _ ht hu => ?_⟩
  · show w'.ownsRow B _ 6 sv' (secs ++ [s]).length ((secs ++ [s]).flatMap Sc.cells)
    rw [List.length_append, List.flatMap_append]
    simpa using ho
  · have : FrS B w t := by
      rcases hget i t ht with ⟨hi, h2⟩ | ⟨_, rfl⟩
      · exact h.each i t hi h2
      · exact hs
    exact ⟨hl.own this.data (by decide), hl.own this.rel (by decide)⟩
  · rcases hget i t ht with ⟨hi, h1⟩ | ⟨hi, rfl⟩ <;> rcases hget j u hu with ⟨hj, h2⟩ | ⟨hj, rfl⟩
    · exact h.ap i j t u hij hi hj h1 h2
    · exact hap i t h1
    · exact ⟨(hap j u h2).1.symm, (hap j u h2).2.symm⟩
    · omega
/-- Between two sections of the document's. -/
structure RCI (W : World) (o : Ob) (g k : Nat) (secs : List Sc) (sv yv : Value) (w : World) : Prop where
  fr : FrV W.heap.size w sv yv secs o.syms secs.length
  con : secs.map Sc.con = (o.secs.take k).map Sc.con
  box : w.heap[g]? = some (.cells #[sv, yv] 25 (0, 0))
  res : w.heap[W.heap.size + 1]? = some (.cells #[.slice none 0 0, .slice none 0 0] 25 (0, 0))
  b : Below W.heap.size W w
theorem RCI.below {o : Ob} {g : Nat} (h : RCI W o g k secs sv yv w) (hb : Below w.heap.size w w') : RCI W o g k secs sv yv w' :=
  ⟨h.fr.below h.b.size hb, h.con, (hb.block _ (Array.getElem?_eq_some_iff.1 h.box).1).trans h.box, (hb.block _ (Array.getElem?_eq_some_iff.1 h.res).1).trans h.res, h.b.trans (hb.mono h.b.size)⟩
/-- A section more: its slices lie from wr on, the append, the store into the object's box. -/
theorem RCI.step {o : Ob} {g : Nat} {wr : World} (h : RCI W o g k secs sv yv wr) (hb : Below wr.heap.size wr w) {x : Sc} (hx : o.secs[k]? = some x) {s : Sc} (hsx : s.con = x.con) (hg1 : W.heap.size ≤ g) (hg2 : g ≠ W.heap.size + 1)
    (hd : w.ownsRow wr.heap.size 5 1 (dV s) s.data.length (s.data.map (Value.int .u8))) (hr : w.ownsRow wr.heap.size 54 4 (rV s) s.rel.length (s.rel.flatMap Rl.cells))
    {sv' : Value} (ho : w'.ownsRow W.heap.size 40 6 sv' (secs.length + 1) (secs.flatMap Sc.cells ++ s.cells)) (hg : w.grownBy w' sv.ownBlock) :
    RCI W o g (k + 1) (secs ++ [s]) sv' yv (w'.setCell ⟨g, 0, none⟩ sv') := by
  have h1 := h.below hb
  have hz := h1.b.size
  have hz0 := h.b.size
  have hne : ∀ q, sv.ownBlock = some q → q ≠ g ∧ q ≠ W.heap.size + 1 := fun q e => ⟨tag_ne (own_tag h1.fr.os e) (tag_row h1.box) (by decide), tag_ne (own_tag h1.fr.os e) (tag_row h1.res) (by decide)⟩
  have hbox := (hg.block g (Array.getElem?_eq_some_iff.1 h1.box).1 (fun e => (hne g e.symm).1 rfl)).trans h1.box
  have hres := (hg.block _ (Array.getElem?_eq_some_iff.1 h1.res).1 (fun e => (hne _ e.symm).2 rfl)).trans h1.res
  have hf := h1.fr.addS hz ⟨own_base hd hz0, own_base hr hz0⟩ (fun i t ht => by
    have hi : i < secs.length := (List.getElem?_eq_some_iff.1 ht).1
    have hf := h.fr.each i t hi ht
    exact ⟨fun q e e2 => by have a := own_lt hf.data q e; have b := own_ge hd q e2; omega, fun q e e2 => by have a := own_lt hf.rel q e; have b := own_ge hr q e2; omega⟩) ho hg
  have hw' : W.heap.size ≤ w'.heap.size := Nat.le_trans hz hg.size
  have hl : Lies W.heap.size isO w' (w'.setCell ⟨g, 0, none⟩ sv') := Lies.grown (grown_set w' _ sv') (fun q e => by cases e; exact ⟨tag_row hbox, hg1⟩) (by unfold isO; decide) hw'
  have hb' : Below W.heap.size W w' := h1.b.grown hg hz (fun q e => own_ge h1.fr.os q e)
  refine ⟨hf.lies hl, ?_, heap_setCell_same _ _ 0 _ _ _ hbox, (heap_setCell_other _ _ _ _ (fun e => hg2 e.symm)).trans hres, hb'.setCell hg1 _⟩
  rw [List.map_append, h.con, List.take_add_one, hx]
  simp [hsx]
theorem RCI.boxk {o : Ob} {g : Nat} {wr : World} (h : RCI W o g k secs sv yv wr) (hb : Below wr.heap.size wr w) (hg : w.grownBy w' sv.ownBlock) : w'.heap[g]? = some (.cells #[sv, yv] 25 (0, 0)) := by
  have h1 := h.below hb
  have hne : ∀ q, sv.ownBlock = some q → q ≠ g := fun q e => tag_ne (own_tag h1.fr.os e) (tag_row h1.box) (by decide)
  exact (hg.block g (Array.getElem?_eq_some_iff.1 h1.box).1 (fun e => hne g e.symm rfl)).trans h1.box
set_option maxRecDepth 40000 in
set_option maxHeartbeats 8000000 in
theorem rclonO_any (o : Ob) (W : World) (ho : o.rd W) (hn0 : o.secs.length ≤ 100000) (hm0 : o.syms.length ≤ 100000) : Calls Try.prog 26 #[.agg o.cells.toArray] W (CloR W o) := by
  have HO := hid ho
  obtain ⟨n, hn⟩ : ∃ n, n = o.secs.length := ⟨_, rfl⟩
  obtain ⟨m, hm⟩ : ∃ n, n = o.syms.length := ⟨_, rfl⟩
  have HN := hid (And.intro hn hm)
  obtain ⟨W1, hW1⟩ : ∃ W1, W1 = W.alloc (.cells o.cells.toArray 25) := ⟨_, rfl⟩
  obtain ⟨W2, hW2⟩ : ∃ W2, W2 = W1.alloc (.cells #[.slice none 0 0, .slice none 0 0] 25) := ⟨_, rfl⟩
  have hz1 : W1.heap.size = W.heap.size + 1 := by rw [hW1]; simp
  have hz2 : W2.heap.size = W.heap.size + 1 + 1 := by rw [hW2]; simp [hz1]
  have hb2 : Below W.heap.size W W2 := by rw [hW2, hW1]; exact ((Below.refl _ _).alloc (Nat.le_refl _) _).alloc (by simp) _
  have hy1 : W2.heap[W.heap.size]? = some (.cells o.cells.toArray 25 (0, 0)) := by rw [hW2, hW1]; exact (Below.heap_alloc _ _ _ (by simp)).trans (heap_alloc_new _ _)
  have hy2 : W2.heap[W.heap.size + 1]? = some (.cells #[.slice none 0 0, .slice none 0 0] 25 (0, 0)) := by
    have := heap_alloc_new W1 (.cells #[.slice none 0 0, .slice none 0 0] 25)
    rw [hz1] at this
    rw [hW2]; exact this
  have HY := hid (And.intro hy1 hy2)
  have HC : Hid (∀ w', Below W2.heap.size W2 w' → w'.cell? ⟨W.heap.size, 0, none⟩ = some (.slice o.sp n o.sc) ∧ w'.cell? ⟨W.heap.size, 1, none⟩ = some (.slice o.yp m o.yc)) := fun w' hw => by
    rw [hn, hm]; exact obx_cells ((hw.block _ (by omega)).trans hy1)
  have HB2 := hid hb2
  have HBB : Hid (∀ w', Below W2.heap.size W2 w' → Below W.heap.size W w') := fun w' h => hb2.trans (h.mono hb2.size)
  have HZ := hid hz2
  have HW1 := hid hW1
  have HW2 := hid hW2
  rw [← hn] at hn0
  rw [← hm] at hm0
  unfold Ob.cells at HW1
  rw [← hn, ← hm] at HW1
  show Calls Try.prog 26 #[.agg #[.slice o.sp o.secs.length o.sc, .slice o.yp o.syms.length o.yc]] W _
  rw [← hn, ← hm]
  obtain ⟨c0, c1⟩ := HC.out W2 (Below.refl _ _)
  clear ho hn hm hW1 hW2 hb2 hy1 hy2 hz1 hz2
  go_enter Try.func26, Try.ntmps26
  go_upto_region 1 with (fail)
  rw [← HW1.out, ← HW2.out]
  go_upto_region 2 with ((with_reducible show wpList _ _ _ (⟨some 8, _, _, _, _, _⟩ :: _) _ _); go_loud (refine wpList_app ESym rfl _ _ rfl W2.heap.size (.slice none 0 0) 0 [] rfl (World.ownsRow_nil _ _ _ _) o.yp m o.yc (o.syms.flatMap Sy.cells) rfl (by rw [flat_len Sy.cells 4 (fun _ => rfl), HN.out.2, Nat.mul_comm]) HO.out.ynil.2 (HO.out.syms.below HB2.out) (sy_ones _) (by unfold maxLen; omega) (by omega) (Nat.le_refl _) ?_); intro yv w4 ho4 hg4 hs4; rw [Nat.zero_add, List.nil_append] at ho4; have hb4 : Below W2.heap.size W2 w4 := below_none hg4; have HO4 := hid ho4; have HB4 := hid hb4; obtain ⟨yp4, yc4, hyv, -⟩ := own_shape ho4; subst hyv; clear ho4 hg4 hs4 hb4)
  obtain ⟨w5, hw5⟩ : ∃ w5, w5 = w4.alloc (.cells #[.slice none 0 0, .slice yp4 m yc4] 25) := ⟨_, rfl⟩
  have HW5 := hid hw5
  obtain ⟨g, hg⟩ : ∃ g, g = w4.heap.size := ⟨_, rfl⟩
  have hsz4 := HB4.out.size
  have hb45 : Below w4.heap.size w4 w5 := by rw [hw5]; exact (of_alloc rfl).1
  have hb5 : Below W2.heap.size W2 w5 := HB4.out.trans (hb45.mono hsz4)
  have h5 : RCI W o g 0 [] (.slice none 0 0) (.slice yp4 m yc4) w5 := by
    refine ⟨⟨World.ownsRow_nil _ _ _ _, ?_, fun i s hi => absurd hi (Nat.not_lt_zero _), fun i j s t _ hi => absurd hi (Nat.not_lt_zero _)⟩, rfl, ?_, (hb5.block _ (by have := HZ.out; omega)).trans HY.out.2, HBB.out _ hb5⟩
    · have := own_base (own_below HO4.out hb45) HB2.out.size
      rw [HN.out.2] at this ⊢; exact this
    · rw [hg, hw5]; exact heap_alloc_new _ _
  have hgW2 : W2.heap.size ≤ g := by rw [hg]; exact hsz4
  have hgW : W.heap.size + 1 < g := by have := HZ.out; omega
  rw [← hw5, ← hg]
  have H5 := hid h5
  have HB5 := hid hb5
  have HGW2 := hid hgW2
  clear hw5 hg hb45 hb5 h5 hsz4 c0 c1 hgW2
  go_wp2_with (fail)
  go_loopw [4] (fun i wr => ∃ (k : Nat) (secs : List Sc) (sv : Value), k ≤ n ∧ i = .int .i64 k ∧ Aside (secs.length = k ∧ RCI W o g k secs sv (.slice yp4 m yc4) wr ∧ Below W2.heap.size W2 wr)) (fun i _ => n - (intOf i).toNat)
  case atStart => exact ⟨0, [], _, by omega, rfl, ⟨rfl, H5.out, HB5.out⟩⟩
  case round =>
    rename World => wr
    obtain ⟨k, secs, sv, hk, rfl, hrr⟩ := hrel
    obtain ⟨hlk, hi, hbr⟩ := hrr.out
    clear hrr
    have HI := hid hi
    have HBR := hid hbr
    have HLK := hid hlk
    obtain ⟨c0, c1⟩ := HC.out wr hbr
    by_cases hlt : k < n
    · have hkI : (k : Int) < n := by omega
      have hks : k < o.secs.length := by rw [← HN.out.1]; exact hlt
      obtain ⟨b, off, hsp, hbl, -⟩ := HO.out.secs.at (by rw [flat_len Sc.cells 6 (fun _ => rfl)]; omega)
      have hrow := HO.out.secs.below hi.b
      rw [hsp] at hrow c0
      obtain ⟨x0, x1, x2, x3, x4, x5⟩ := sc_cells hrow k hks
      have HX : Hid (o.secs[k]? = some o.secs[k]) := List.getElem?_eq_getElem hks
      have HRD := hid (HO.out.each _ (List.getElem_mem hks))
      generalize o.secs[k] = x at *
      obtain ⟨xn, xk, xa, xz, xd, xdp, xdc, xr, xrp, xrc⟩ := x
      dsimp only at x0 x1 x2 x3 x4 x5
      obtain ⟨w6, hw6⟩ : ∃ w6, w6 = wr.alloc (.cells #[.string xn, .int .i64 xk, .int .i64 xa, .int .i64 xz, .slice xdp xd.length xdc, .slice xrp xr.length xrc] 40) := ⟨_, rfl⟩
      have HW6 := hid hw6
      have hb6 : Below wr.heap.size wr w6 := by rw [hw6]; exact (of_alloc rfl).1
      have hx6 : BxS wr.heap.size ⟨xn, xk, xa, xz, xd, xdp, xdc, xr, xrp, xrc⟩ w6 := by rw [hw6]; exact heap_alloc_new _ _
      have HX6 := hid hx6
      have HB6 := hid hb6
      have hrd6 := (HRD.out.below HI.out.b).below hb6
      have HD6 := hid hrd6.data
      have HDL : Hid (xd.length ≤ 140737488351232 ∧ (xdp = none → xdc = 0)) := ⟨HRD.out.dlen, HRD.out.dnil.2⟩
      have HRL : Hid (xr.length ≤ 4398046510976 ∧ (xrp = none → xrc = 0)) := ⟨HRD.out.rcap, HRD.out.rnil.2⟩
      obtain ⟨q0, q1, q2, q3, q4, q5⟩ := bxs_cells hx6
      have hlt6 : wr.heap.size < w6.heap.size := (Array.getElem?_eq_some_iff.1 hx6).1
      clear hi hbr hrow hw6 hb6 hx6 hrd6
      go_upto_region 6 with (fail)
      rw [← HW6.out]
      clear x0 x1 x2 x3 x4 x5 c0 c1
      have hdl := HDL.out.1
      have hrl := HRL.out.1
      go_upto_region 7 with ((with_reducible show wpList _ _ _ (⟨some 24, _, _, _, _, _⟩ :: _) _ _); go_loud (refine wpList_app EU8 rfl _ _ rfl w6.heap.size (.slice none 0 0) 0 [] rfl (World.ownsRow_nil _ _ _ _) xdp xd.length xdc (xd.map (Value.int .u8)) rfl (by simp) HDL.out.2 HD6.out (u8_ones _) (by unfold maxLen; omega) (by omega) (Nat.le_refl _) ?_); intro v7 w7 ho7 hg7 hs7; rw [Nat.zero_add, List.nil_append] at ho7; have hb7 : Below w6.heap.size w6 w7 := below_none hg7; obtain ⟨p7, c7, hv7, -⟩ := own_shape ho7; subst hv7; have HO7 := hid ho7; have HB7 := hid hb7; have hx7 := (hb7.block _ hlt6).trans HX6.out; have HX7 := hid hx7; have q47 := (bxs_cells hx7).2.2.2.2.1; have qf7 := frozen_of_row _ _ 4 _ _ hx7; clear ho7 hg7 hs7 hb7 hx7)
      obtain ⟨w8, hw8⟩ : ∃ w8, w8 = w7.setCell ⟨wr.heap.size, 4, none⟩ (.slice p7 xd.length c7) := ⟨_, rfl⟩
      have HW8 := hid hw8
      have hx8 : BxS wr.heap.size ⟨xn, xk, xa, xz, xd, p7, c7, xr, xrp, xrc⟩ w8 := by rw [hw8]; exact heap_setCell_same _ _ 4 _ _ _ HX7.out
      have hb78 : Below wr.heap.size wr w8 := by rw [hw8]; exact (HB6.out.trans (HB7.out.mono HB6.out.size)).setCell (p := ⟨wr.heap.size, 4, none⟩) (Nat.le_refl _) _
      have HD8 : Hid (w8.ownsRow w6.heap.size 5 1 (.slice p7 xd.length c7) xd.length (xd.map (Value.int .u8))) := by
        rw [hw8]; exact own_setO HO7.out _ _ (fun q e => by have := own_ge HO7.out q e; show q ≠ wr.heap.size; omega)
      have hrd8 := (HRD.out.below HI.out.b).below hb78
      have HR8 := hid hrd8.rel
      have HX8 := hid hx8
      have HB8 := hid hb78
      have hlt8 : wr.heap.size < w8.heap.size := (Array.getElem?_eq_some_iff.1 hx8).1
      obtain ⟨e0, e1, e2, e3, e4, e5⟩ := bxs_cells hx8
      dsimp only at e0 e1 e2 e3 e4 e5
      rw [← hw8]
      clear hw8 hx8 hb78 hrd8 q0 q1 q2 q3 q4 q5 q47 qf7
      go_upto_region 8 with ((with_reducible show wpList _ _ _ (⟨some 28, _, _, _, _, _⟩ :: _) _ _); go_loud (refine wpList_app ERel rfl _ _ rfl w8.heap.size (.slice none 0 0) 0 [] rfl (World.ownsRow_nil _ _ _ _) xrp xr.length xrc (xr.flatMap Rl.cells) rfl (by rw [flat_len Rl.cells 4 (fun _ => rfl), Nat.mul_comm]) HRL.out.2 HR8.out (rl_ones _) (by unfold maxLen; omega) (by omega) (Nat.le_refl _) ?_); intro v9 w9 ho9 hg9 hs9; rw [Nat.zero_add, List.nil_append] at ho9; have hb9 : Below w8.heap.size w8 w9 := below_none hg9; obtain ⟨p9, c9, hv9, -⟩ := own_shape ho9; subst hv9; have HO9 := hid ho9; have HB9 := hid hb9; have hx9 := (hb9.block _ hlt8).trans HX8.out; have HX9 := hid hx9; have q59 := (bxs_cells hx9).2.2.2.2.2; have qf9 := frozen_of_row _ _ 5 _ _ hx9; clear ho9 hg9 hs9 hb9 hx9)
      obtain ⟨wa, hwa⟩ : ∃ wa, wa = w9.setCell ⟨wr.heap.size, 5, none⟩ (.slice p9 xr.length c9) := ⟨_, rfl⟩
      have hxa : BxS wr.heap.size ⟨xn, xk, xa, xz, xd, p7, c7, xr, p9, c9⟩ wa := by rw [hwa]; exact heap_setCell_same _ _ 5 _ _ _ HX9.out
      have hba : Below wr.heap.size wr wa := by rw [hwa]; exact (HB8.out.trans (HB9.out.mono HB8.out.size)).setCell (p := ⟨wr.heap.size, 5, none⟩) (Nat.le_refl _) _
      have hz68 := HB6.out.size
      have HDa : Hid (wa.ownsRow wr.heap.size 5 1 (.slice p7 xd.length c7) xd.length (xd.map (Value.int .u8))) := by
        rw [hwa]; exact own_base (own_setO (own_below HD8.out HB9.out) _ _ (fun q e => by have := own_ge HO7.out q e; show q ≠ wr.heap.size; omega)) hz68
      have HRa : Hid (wa.ownsRow wr.heap.size 54 4 (.slice p9 xr.length c9) xr.length (xr.flatMap Rl.cells)) := by
        rw [hwa]; exact own_base (own_setO HO9.out _ _ (fun q e => by have := own_ge HO9.out q e; show q ≠ wr.heap.size; omega)) (Nat.le_of_lt hlt8)
      have HXa := hid hxa
      have HBa := hid hba
      have ha := HI.out.below hba
      have HIA := hid ha
      obtain ⟨f0, f1, f2, f3, f4, f5⟩ := bxs_cells hxa
      dsimp only at f0 f1 f2 f3 f4 f5
      obtain ⟨svp, svc, hsv, -⟩ := own_shape ha.fr.os
      rw [HLK.out] at hsv
      subst hsv
      have g0 := cell_of_row _ _ 0 _ _ _ ha.box
      simp only [List.getElem?_toArray, List.getElem?_cons_zero] at g0
      have HOS : Hid (wa.ownsRow W.heap.size 40 6 (.slice svp k svc) k (secs.flatMap Sc.cells)) := by have := ha.fr.os; rwa [HLK.out] at this
      have hza := ha.b.size
      have hgza : g < wa.heap.size := (Array.getElem?_eq_some_iff.1 ha.box).1
      rw [← hwa]
      clear hwa hxa hba ha e0 e1 e2 e3 e4 e5 q59 qf9
      go_upto_region 4 with ((with_reducible show wpList _ _ _ (⟨some 34, _, _, _, _, _⟩ :: _) _ _); go_loud (refine wpList_app ESec rfl _ _ rfl W.heap.size (.slice svp k svc) k (secs.flatMap Sc.cells) rfl (own_below HOS.out ((of_alloc rfl).1)) _ 1 1 (Sc.cells ⟨xn, xk, xa, xz, xd, p7, c7, xr, p9, c9⟩) rfl rfl (by intro h; cases h) (row_new _ _ _) (fun u hu => sc_ones [_] u (by simpa using hu)) (by unfold maxLen; omega) (by omega) (by simp; omega) ?_); go_loud (intro vb wb hob hgb hsb; obtain ⟨vp, vc, rfl, -⟩ := own_shape hob; have ha2 : Below wa.heap.size wa (wa.alloc (.cells (Sc.cells ⟨xn, xk, xa, xz, xd, p7, c7, xr, p9, c9⟩).toArray 40)) := (of_alloc rfl).1; have hbx := HIA.out.boxk ha2 hgb; have gb0 := cell_of_row _ _ 0 _ _ _ hbx; have gfb := frozen_of_row _ _ 0 _ _ hbx; simp only [List.getElem?_toArray, List.getElem?_cons_zero] at gb0; have HSS := hid (HI.out.step (s := ⟨xn, xk, xa, xz, xd, p7, c7, xr, p9, c9⟩) (HBa.out.trans (ha2.mono HBa.out.size)) HX.out rfl (by omega) (by omega) (own_below HDa.out ha2) (own_below HRa.out ha2) (by rw [HLK.out]; exact hob) hgb); have HBW := hid ((HBR.out.trans (HBa.out.mono HBR.out.size)).trans (ha2.mono (by have := HBR.out.size; have := HBa.out.size; omega))); have HGB := hid hgb; clear ha2 hbx hob hgb hsb))
      have hbf := (HBW.out.grown HGB.out (by have := HBW.out.size; exact this) (fun q e => by
        have t1 := own_tag HIA.out.fr.os e
        have t2 := tag_row HIA.out.res
        have t3 := tag_row (((HBR.out.trans (HBa.out.mono HBR.out.size)).block W.heap.size (by have := HZ.out; omega)).trans HY.out.1)
        have n2 := tag_ne t1 t2 (by decide)
        have n3 := tag_ne t1 t3 (by decide)
        have hg := own_ge HIA.out.fr.os q e
        have := HZ.out
        omega)).setCell (p := ⟨g, 0, none⟩) HGW2.out (.slice vp (k + 1) vc)
      have HBF := hid hbf
      clear hbf
      go_wp2_with fail
      exact ⟨⟨k + 1, by omega, by go_num, secs ++ [⟨xn, xk, xa, xz, xd, p7, c7, xr, p9, c9⟩], .slice vp (k + 1) vc, ⟨by rw [List.length_append, HLK.out]; rfl, HSS.out, HBF.out⟩⟩, by simp [intOf]; omega⟩
    · have hke : k = n := by omega
      subst hke
      obtain ⟨svp, svc, hsv, -⟩ := own_shape hi.fr.os
      rw [hlk] at hsv
      subst hsv
      have hbox := hi.box
      have hres := hi.res
      have b0 := cell_of_row _ _ 0 _ _ _ hbox
      have b1 := cell_of_row _ _ 1 _ _ _ hbox
      have hr0 := cell_of_row _ _ 0 _ _ _ hres
      have hr1 := cell_of_row _ _ 1 _ _ _ hres
      have hf0 := frozen_of_row _ _ 0 _ _ hres
      have hf1 := frozen_of_row _ _ 1 _ _ hres
      simp only [List.getElem?_toArray, List.getElem?_cons_zero, List.getElem?_cons_succ] at b0 b1 hr0 hr1
      have hbw := hi.b
      have HB9 : Hid (∀ (u v : Value), Below W.heap.size W ((wr.setCell ⟨W.heap.size + 1, 0, none⟩ u).setCell ⟨W.heap.size + 1, 1, none⟩ v)) := fun u v => (hbw.setCell (Nat.le_succ _) _).setCell (Nat.le_succ _) _
      have HF9 : Hid (∀ (u v : Value), FrV W.heap.size ((wr.setCell ⟨W.heap.size + 1, 0, none⟩ u).setCell ⟨W.heap.size + 1, 1, none⟩ v) (.slice svp k svc) (.slice yp4 m yc4) secs o.syms secs.length) := fun u v => by
        have l1 : ∀ (w : World) (j : Nat) (x : Value), tagAt w (W.heap.size + 1) = some (25 + 1) → W.heap.size ≤ w.heap.size → Lies W.heap.size isO w (w.setCell ⟨W.heap.size + 1, j, none⟩ x) := fun w j x ht hz =>
          Lies.grown (grown_set w _ x) (fun q e => by cases e; exact ⟨ht, Nat.le_succ _⟩) (by unfold isO; decide) hz
        have t1 := tag_row hres
        have t2 : tagAt (wr.setCell ⟨W.heap.size + 1, 0, none⟩ u) (W.heap.size + 1) = some (25 + 1) := tag_row (heap_setCell_same _ _ 0 _ _ _ hres)
        exact (hi.fr.lies (l1 wr 0 u t1 hbw.size)).lies (l1 _ 1 v t2 (by simpa using hbw.size))
      have HR9 : Hid (∀ (u v : Value), ((wr.setCell ⟨W.heap.size + 1, 0, none⟩ u).setCell ⟨W.heap.size + 1, 1, none⟩ v).heap[W.heap.size + 1]? = some (.cells #[u, v] 25 (0, 0))) := fun u v => heap_setCell_same _ _ 1 _ _ _ (heap_setCell_same _ _ 0 _ _ _ hres)
      have HCN : Hid (secs.map Sc.con = o.secs.map Sc.con) := by
        have := hi.con
        rw [List.take_of_length_le (by rw [← HN.out.1]; exact Nat.le_refl _)] at this
        exact this
      clear hres hi hbr hbox hbw
      go_wp2_with fail
      have r9 := HR9.out (.slice svp k svc) (.slice yp4 m yc4)
      have y0 := cell_of_row _ _ 0 _ _ _ r9
      have y1 := cell_of_row _ _ 1 _ _ _ r9
      simp only [List.getElem?_toArray, List.getElem?_cons_zero, List.getElem?_cons_succ] at y0 y1
      obtain ⟨W9, hW9⟩ : ∃ W9, W9 = (wr.setCell ⟨W.heap.size + 1, 0, none⟩ (.slice svp k svc)).setCell ⟨W.heap.size + 1, 1, none⟩ (.slice yp4 m yc4) := ⟨_, rfl⟩
      rw [← hW9] at y0 y1 ⊢
      refine bodyPost_ret (v := .agg #[.slice svp k svc, .slice yp4 m yc4]) (by simp [results, Try.results26, go_sem, y0, y1]) rfl ?_
      exact ⟨⟨_, _, secs, rfl, by rw [hW9]; exact HF9.out _ _, HCN.out⟩, by rw [hW9]; exact HB9.out _ _⟩
end Go.Proofs.Yteccpmmedpkddaa
