/-
  The document's maker: put.
  The document's maker: mark.
-/
import Derived.Test.YthlingholhjcnaaJO4
namespace Go.Proofs.Ythlingholhjcnaa
open Go.RowKit
variable {W W' w w' : World} {base m : Nat} {X X' : FV} {file line : Int} {name : ByteArray}

theorem RkN.but (h : RkN W base m X file line name) (hk : ∀ b, (b = m ∨ X.fp b) → W'.heap[b]? = W.heap[b]?) (hl : Lies base isOB W W') : RkN W' base m X file line name :=
  ⟨(hk m (.inl rfl)).trans h.head, h.is.but (fun b hb => hk b (.inr hb)) hl, h.ge⟩
theorem FIs.fp_lt (h : FIs W base X) {q : Nat} (hq : X.fp q) : q < W.heap.size := by
  obtain ⟨x, _, ht⟩ := h.fp_tag hq
  exact tag_lt ht
theorem RkN.finPiece (h : RkN W base m X file line name) {i : Nat} {y : PtR} (hi : X.ps[i]? = some y) {g c : Nat} (hpv : X.pv = .slice (some ⟨g, 0, none⟩) X.ps.length c) {o : Obj} {w8 : World} {p' : Option Addr} {c' : Nat} (x : PcR)
    (ho : w8.ownsRow base 64 11 (.slice p' (y.pieces.l.length + 1) c') (y.pieces.l.length + 1) (y.pieces.l.flatMap PcR.cells ++ x.cells)) (hg : (W.alloc o).drew.grownBy w8 y.pieces.val.ownBlock) (hs : Stayed (W.alloc o).drew y.pieces.val (.slice p' (y.pieces.l.length + 1) c')) (hx : PcOk W base x) :
    RkN (w8.setCell ⟨g, i * 4 + 3, none⟩ (.slice p' (y.pieces.l.length + 1) c')) base m { X with ps := X.ps.set i { y with pieces := ⟨p', c', y.pieces.l ++ [x]⟩ } } file line name ∧ Trn base W (w8.setCell ⟨g, i * 4 + 3, none⟩ (.slice p' (y.pieces.l.length + 1) c')) := by
  have hA := h.below (alloc_below W o)
  have hg := grown_undrew hg
  have hyo := hA.is.pcs i y hi
  have hr : ∀ g, y.pieces.val.ownBlock = some g → tagAt (W.alloc o) g = some (64 + 1) ∧ base ≤ g := fun g hgg => ⟨own_tag hyo hgg, own_ge hyo g hgg⟩
  have hl : Lies base (fun y => y ≠ 64 + 1) (W.alloc o) w8 := Lies.grown hg hr (fun hn => hn rfl) hA.hz
  have ht : Trn base W w8 := (TrnP.below (alloc_below W o) h.hz).trans (TrnP.grown hg hr (by unfold isPT; decide) hA.hz)
  have hF := hA.is.addPiece hA.hz hi hpv x ho hg hs (hx.lies (Lies.below _ (alloc_below W o) h.hz))
  have htg : tagAt w8 g = some (50 + 1) := by
    have := own_tag hA.is.parts (g := g) (by rw [hpv]; rfl)
    exact tag_blk this (hl.tag g _ this (by decide))
  have hge : base ≤ g := own_ge hA.is.parts g (by rw [hpv]; rfl)
  have hz8 : base ≤ w8.heap.size := Nat.le_trans hA.hz hl.size
  have hm8 : w8.heap[m]? = some (.cells (headR X file line name) 85 (0, 0)) := (hl.tag m _ hA.tagM (by decide)).trans hA.head
  refine ⟨⟨(heap_setCell_other _ _ _ _ ?_).trans hm8, hF, h.ge⟩, ht.trans (TrnP.grown (grown_set _ _ _) (fun b hb => by cases hb; exact ⟨htg, hge⟩) (by unfold isPT; decide) hz8)⟩
  exact fun e => tag_ne (tag_row hm8) htg (by decide) e
/-- The box and the parts' slice, as they are read. -/
structure BxR (m bx : Nat) (x : PcR) (pv : Value) (w' : World) : Prop where
  b : BxP bx x w'
  p : w'.cell? ⟨m, 0, none⟩ = some pv
def RPutT (W : World) (base m : Nat) (file line : Int) (name : ByteArray) (S : FP) (n : Nat) (e : Ending) (w' : World) : Prop :=
  e = .returned (.tuple #[]) ∧ Trn base W w' ∧ ∃ X', RkN w' base m X' file line name ∧ X'.pl = S ∧ Sm X' n
set_option maxRecDepth 20000 in
set_option maxHeartbeats 4000000 in
theorem rput_any (h : RkN W base m X file line name) {n : Nat} (hn : Sm X n) (hn2 : n ≤ 4000000) (x : PcR) (hx : PcOk W base x) (bad : Bool) :
    Calls Try.prog 44 #[.pointer (some ⟨m, 0, none⟩), .agg x.cells.toArray, .bool bad] W (RPutT W base m file line name (X.pl.put file line name x.pl (!bad)) (n + 1)) := by
  have HC := hid h
  have HN := hid hn
  have HKI := hid (fun w1 : World => rkind_any name w1)
  obtain ⟨W1, hW1⟩ : ∃ W1, W1 = W.alloc (.cells x.cells.toArray 64) := ⟨_, rfl⟩
  have hb1 : Below W.heap.size W W1 := by rw [hW1]; exact alloc_below _ _
  have hx1 : W1.heap[W.heap.size]? = some (.cells x.cells.toArray 64 (0, 0)) := by rw [hW1]; exact heap_alloc_new _ _
  have HB1 := hid hb1
  have HW1 := hid hW1
  have h1 := h.below hb1
  have H1 := hid h1
  have c6 := h1.cells.2.2.2.2.n
  have c4 := h1.cells.2.2.2.2.f
  have c5 := h1.cells.2.2.2.2.l
  have hml := h.lt
  have HF := hid (rfault_any h1 (Nat.le_trans hn.fs (by omega)) 150)
  -- the box with file and line
  obtain ⟨x', hx'⟩ : ∃ x' : PcR, x' = { x with file := file, line := line } := ⟨_, rfl⟩
  obtain ⟨W2, hW2⟩ : ∃ W2, W2 = (W1.setCell ⟨W.heap.size, 1, none⟩ (.int .i64 file)).setCell ⟨W.heap.size, 2, none⟩ (.int .i64 line) := ⟨_, rfl⟩
  have hb2 : W2.heap[W.heap.size]? = some (.cells x'.cells.toArray 64 (0, 0)) := by
    rw [hW2, hx']; exact heap_setCell_same _ _ 2 _ _ _ (heap_setCell_same _ _ 1 _ _ _ hx1)
  have ho2 : ∀ q, q ≠ W.heap.size → W2.heap[q]? = W1.heap[q]? := fun q hq => by rw [hW2]; exact (heap_setCell_other _ _ _ _ hq).trans (heap_setCell_other _ _ _ _ hq)
  have hg2 : W1.grownBy W2 (some W.heap.size) := by rw [hW2]; exact ⟨rfl, rfl, rfl, by simp, fun k _ hk => (heap_setCell_other _ _ _ _ (fun e => hk (by rw [e]))).trans (heap_setCell_other _ _ _ _ (fun e => hk (by rw [e])))⟩
  have hl2 : Lies base isOB W1 W2 := Lies.grown hg2 (fun q e => by cases e; exact ⟨tag_row hx1, h.hz⟩) (by unfold isOB; decide) h1.hz
  have ht2 : Trn base W1 W2 := TrnP.grown hg2 (fun q e => by cases e; exact ⟨tag_row hx1, h.hz⟩) (by unfold isPT; decide) h1.hz
  have h2 : RkN W2 base m X file line name := h1.but (fun b hb => ho2 b (fun e => by
    rcases hb with hb | hb
    · omega
    · have := h.is.fp_lt hb; omega)) hl2
  have HTW := hid ((TrnP.below hb1 h.hz).trans ht2)
  have HP := hid (rpart_any h2 (Nat.le_trans hn.ps (by omega)))
  have HX2 := hid (hx.trn HTW.out)
  have HPL : Hid (x'.pl = { x.pl with file := file, line := line }) := by unfold Hid; rw [hx']; rfl
  have HX' := hid hx'
  have HBX := hid hb2
  have HW2 := hid hW2
  have zb1 := cell_of_row _ _ 1 _ _ _ hx1
  have zb2 := cell_of_row _ _ 2 _ _ _ hx1
  have zf1 := frozen_of_row _ _ 1 _ _ hx1
  have zf2 := frozen_of_row _ _ 2 _ _ hx1
  have hmb : m ≠ W.heap.size := by omega
  have c5s : ∀ v, (W1.setCell ⟨W.heap.size, 1, none⟩ v).cell? ⟨m, 5, none⟩ = some (.int .i64 line) := fun v => (World.cell?_of_block (a := ⟨m, 5, none⟩) (heap_setCell_other _ _ _ _ hmb)).trans c5
  clear h hn hx hb1 hx1 h1 hW1 hx' hW2 hb2 ho2 hg2 hl2 ht2 h2
  generalize hcc : (bad && (kindP name == 4)) = cc at *
  have HCC := hid hcc
  clear hcc
  go_enter Try.func44, Try.ntmps44
  go_upto_region 1 with (fail)
  rw [← HW1.out]
  go_cut [15] (fun b wx => b = .bool cc ∧ wx = W1)
  case first =>
    cases bad with
    | false =>
      go_wp2_with fail
      go_meet
      exact ⟨by rw [← HCC.out]; rfl, rfl⟩
    | true =>
      go_wp2_with (go_at_call 57; (with_reducible refine (HKI.out _).mono ?_); rintro e w2 ⟨rfl, hw2⟩; subst hw2)
      all_goals go_meet
      all_goals exact ⟨by rw [← HCC.out]; rfl, rfl⟩
  case rest =>
    obtain ⟨rfl, hwc⟩ := hcut
    rw [hwc]
    clear hwc
    cases cc with
    | true =>
      go_wp2_with (go_at_call 41; (with_reducible refine HF.out.mono ?_); rintro e w3 ⟨rfl, ⟨v', h3⟩, ht3⟩; have H3 := hid h3; have HT3 := hid ht3; clear h3 ht3)
      go_end0
      refine ⟨rfl, (TrnP.below HB1.out HC.out.hz).trans HT3.out, _, H3.out, ?_, ?_⟩
      · unfold FP.put; rw [Bool.not_not, HCC.out]; rfl
      · have q := HN.out
        exact ⟨Nat.le_succ_of_le q.ps, Nat.le_succ_of_le q.ms, Nat.le_succ_of_le q.gs, by show (X.fs ++ [_]).length ≤ _; rw [List.length_append]; have := q.fs; simp; omega, fun y hy => Nat.le_succ_of_le (q.pcs y hy)⟩
    | false =>
      go_upto_region 5 with (fail)
      rw [← HW2.out]
      go_upto_region 6 with (go_at_call 42; (with_reducible refine HP.out.mono ?_); rintro e w3 ⟨X3, i, rfl, hi3, h3, ht3, hp3⟩)
      have hb3 : w3.heap[W.heap.size]? = some (.cells x'.cells.toArray 64 (0, 0)) := (ht3.2.tag _ _ (tag_row HBX.out) (.inr (.inl rfl))).trans HBX.out
      have hml3 : m < w3.heap.size := h3.lt
      have hpl : 0 < X3.ps.length := by omega
      obtain ⟨g, c, hpv, hge, hgl, -, -⟩ := own_block h3.is.parts hpl
      have hpar := h3.is.parts
      rw [hpv] at hpar
      obtain ⟨pr, cr, er, hrow⟩ := own_shape hpar
      cases er
      obtain ⟨y, hy⟩ : ∃ y, X3.ps[i]? = some y := ⟨_, List.getElem?_eq_getElem hi3⟩
      have hyo := h3.is.pcs i y hy
      have hyl : y.pieces.l.length ≤ n := hp3.pcs HN.out y (List.mem_of_getElem? hy)
      have d3 := (ptr_cells hrow i hi3).2.2.2
      have hgey : X3.ps[i]'hi3 = y := (List.getElem?_eq_some_iff.1 hy).2
      rw [hgey, Nat.zero_add] at d3
      have hlt5 : i * 4 + 3 < (X3.ps.flatMap PtR.cells).length := by rw [flat_len PtR.cells 4 (fun _ => rfl)]; omega
      have zf3 := (own_cell hpar (i * 4 + 3) hlt5).2
      have hgb : g ≠ W.heap.size := tag_ne (own_tag hpar (g := g) rfl) (tag_row hb3) (by decide)
      have hgm : g ≠ m := tag_ne (own_tag hpar (g := g) rfl) h3.tagM (by decide)
      have hyb : ∀ q, y.pieces.val.ownBlock = some q → q ≠ W.heap.size ∧ q ≠ g ∧ q ≠ m := fun q hq => ⟨fun e => (by
        rcases hp3.mem hy with h1 | h1
        · have := own_lt (HC.out.is.pcs i y h1) q hq; omega
        · rw [h1] at hq; cases hq), fun e => tag_ne (own_tag hyo hq) (own_tag hpar (g := g) rfl) (by decide) e, fun e => tag_ne (own_tag hyo hq) h3.tagM (by decide) e⟩
      have HX3 := hid (HX2.out.lies (ht3.2.mono fun _ h => .inl (ob_pt h)))
      have HX3 : Hid (PcOk w3 base x') := by have := HX3.out; unfold Hid; rw [HX'.out]; exact ⟨this.op, this.opl, this.b, this.bl⟩
      have HTR : Hid (Trn base W w3) := HTW.out.trans ht3.pt
      have c0 : w3.cell? ⟨m, 0, none⟩ = some (.slice (some ⟨g, 0, none⟩) X3.ps.length c) := by rw [← hpv]; exact h3.cells.1
      obtain ⟨s, hs⟩ : ∃ s, s = y.pieces := ⟨_, rfl⟩
      have HS := hid hs
      rw [← hs] at hyo hyl d3 hyb
      obtain ⟨yp, yc, yl⟩ := s
      replace d3 : w3.cell? ⟨g, i * 4 + 3, none⟩ = some (.slice yp yl.length yc) := d3
      have HY7 : Hid (w3.ownsRow base 64 11 (.slice yp yl.length yc) yl.length (yl.flatMap PcR.cells)) := hyo
      replace hyl : yl.length ≤ n := hyl
      have H3 := hid h3
      have HPV := hid hpv
      have HP3 := hid hp3
      have HYI := hid hy
      have hz3 := h3.hz
      have hpln : X3.ps.length ≤ n + 1 := (hp3.sm HN.out).ps
      have hii : (i : Int) < X3.ps.length := by omega
      generalize W.heap.size = bx at *
      have hbl : bx < w3.heap.size := (Array.getElem?_eq_some_iff.1 hb3).1
      have d3L : ∀ o : Obj, (w3.alloc o).cell? ⟨g, i * 4 + 3, none⟩ = some (.slice yp yl.length yc) := fun o => (World.cell?_of_block (a := ⟨g, i * 4 + 3, none⟩) (Below.heap_alloc w3 o g hgl)).trans d3
      have HSL : Hid (∀ o : Obj, BxR m bx x' (.slice (some ⟨g, 0, none⟩) X3.ps.length c) (w3.alloc o).drew) := fun o => ⟨(Below.heap_alloc w3 o bx hbl).trans hb3, (World.cell?_of_block (a := ⟨m, 0, none⟩) (Below.heap_alloc w3 o m hml3)).trans c0⟩
      have HH4 : Hid (BxR m bx x' (.slice (some ⟨g, 0, none⟩) X3.ps.length c) w3.drew) := ⟨hb3, c0⟩
      have HK8 : Hid (∀ (o : Obj) (w8 : World), (w3.alloc o).drew.grownBy w8 (Value.slice yp yl.length yc).ownBlock → BxR m bx x' (.slice (some ⟨g, 0, none⟩) X3.ps.length c) w8 ∧ w8.cell? ⟨g, i * 4 + 3, none⟩ = some (.slice yp yl.length yc) ∧ w8.frozen? ⟨g, i * 4 + 3, none⟩ = false) := fun o w8 hg => by
        have hg2 := grown_undrew hg
        have e1 : w8.heap[bx]? = w3.heap[bx]? := (hg2.block bx (by simp; omega) (fun e => (hyb bx e.symm).1 rfl)).trans (Below.heap_alloc w3 o bx hbl)
        have e2 : w8.heap[g]? = w3.heap[g]? := (hg2.block g (by simp; omega) (fun e => (hyb g e.symm).2.1 rfl)).trans (Below.heap_alloc w3 o g hgl)
        have e3 : w8.heap[m]? = w3.heap[m]? := (hg2.block m (by simp; omega) (fun e => (hyb m e.symm).2.2 rfl)).trans (Below.heap_alloc w3 o m hml3)
        exact ⟨⟨e1.trans hb3, (World.cell?_of_block (a := ⟨m, 0, none⟩) e3).trans c0⟩, (World.cell?_of_block (a := ⟨g, i * 4 + 3, none⟩) e2).trans d3, (World.frozen?_of_block (a := ⟨g, i * 4 + 3, none⟩) e2).trans zf3⟩
      have HBS : Hid (∀ (w' : World) (v : Value), BxR m bx x' (.slice (some ⟨g, 0, none⟩) X3.ps.length c) w' → BxR m bx x' (.slice (some ⟨g, 0, none⟩) X3.ps.length c) (w'.setCell ⟨g, i * 4 + 3, none⟩ v)) := fun w' v hw => ⟨(heap_setCell_other _ _ _ _ (Ne.symm hgb)).trans hw.b, (World.cell?_of_block (a := ⟨m, 0, none⟩) (heap_setCell_other _ _ _ _ (Ne.symm hgm))).trans hw.p⟩
      have HFIN : Hid (∀ (o : Obj) (w8 : World) (p8 : Option Addr) (c8 : Nat), w8.ownsRow base 64 11 (.slice p8 (yl.length + 1) c8) (yl.length + 1) (yl.flatMap PcR.cells ++ x'.cells) → (w3.alloc o).drew.grownBy w8 (Value.slice yp yl.length yc).ownBlock → Stayed (w3.alloc o).drew (.slice yp yl.length yc) (.slice p8 (yl.length + 1) c8) →
          RPutT W base m file line name (X.pl.put file line name x.pl (!bad)) (n + 1) (.returned (.tuple #[])) (w8.setCell ⟨g, i * 4 + 3, none⟩ (.slice p8 (yl.length + 1) c8))) := fun o w8 p8 c8 ho8 hg8 hs8 => by
        have hys : y.pieces = ⟨yp, yc, yl⟩ := HS.out.symm
        have hfin := H3.out.finPiece HYI.out HPV.out (p' := p8) (c' := c8) x' (by rw [hys]; exact ho8) (by rw [hys]; exact hg8) (by rw [hys]; exact hs8) HX3.out
        rw [hys] at hfin
        dsimp only at hfin
        refine ⟨rfl, HTR.out.trans hfin.2, { X3 with ps := X3.ps.set i { y with pieces := ⟨p8, c8, yl ++ [x']⟩ } }, hfin.1, ?_, ?_⟩
        · unfold FP.put
          rw [Bool.not_not, HCC.out, if_neg (by decide), HP3.out.plain]
          have h5 := map_setPc HYI.out p8 c8 x'
          rw [hys, HPL.out] at h5
          show (⟨(X3.ps.set i _).map PtR.pl, X3.ms, X3.gs, X3.fs⟩ : FP) = _
          dsimp only at h5
          rw [h5]
          rfl
        · have hsm := HP3.out.sm HN.out
          refine ⟨by show (X3.ps.set i _).length ≤ _; rw [List.length_set]; exact hsm.ps, hsm.ms, hsm.gs, hsm.fs, fun z hz => ?_⟩
          have hz : z ∈ X3.ps.set i { y with pieces := ⟨p8, c8, yl ++ [x']⟩ } := hz
          rcases List.mem_or_eq_of_mem_set hz with h6 | h6
          · exact hsm.pcs z h6
          · rw [h6]
            show (yl ++ [x']).length ≤ n + 1
            rw [List.length_append]; simp; omega
      clear h3 hb3 hy hyo hpar hrow hgey hlt5 hyb hs hp3 ht3 hpv zb1 zb2 zf1 zf2 c4 c5 c6 c5s
      have aks := fun (w' : World) (h : BxR m bx x' (.slice (some ⟨g, 0, none⟩) X3.ps.length c) w') => box_cells h.b
      have kp : ∀ w' : World, BxR m bx x' (.slice (some ⟨g, 0, none⟩) X3.ps.length c) w' → w'.cell? ⟨m, 0, none⟩ = some (.slice (some ⟨g, 0, none⟩) X3.ps.length c) := fun w' h => h.p
      have k0 : ∀ w' : World, BxR m bx x' (.slice (some ⟨g, 0, none⟩) X3.ps.length c) w' → w'.cell? ⟨bx, 0, none⟩ = some (.int .i64 x'.kind) := fun w' h => (aks w' h).1
      have k1 : ∀ w' : World, BxR m bx x' (.slice (some ⟨g, 0, none⟩) X3.ps.length c) w' → w'.cell? ⟨bx, 1, none⟩ = some (.int .i64 x'.file) := fun w' h => (aks w' h).2.1
      have k2 : ∀ w' : World, BxR m bx x' (.slice (some ⟨g, 0, none⟩) X3.ps.length c) w' → w'.cell? ⟨bx, 2, none⟩ = some (.int .i64 x'.line) := fun w' h => (aks w' h).2.2.1
      have k3 : ∀ w' : World, BxR m bx x' (.slice (some ⟨g, 0, none⟩) X3.ps.length c) w' → w'.cell? ⟨bx, 3, none⟩ = some (.string x'.l.name) := fun w' h => (aks w' h).2.2.2.1
      have k4 : ∀ w' : World, BxR m bx x' (.slice (some ⟨g, 0, none⟩) X3.ps.length c) w' → w'.cell? ⟨bx, 4, none⟩ = some x'.l.opers.val := fun w' h => (aks w' h).2.2.2.2.1
      have k5 : ∀ w' : World, BxR m bx x' (.slice (some ⟨g, 0, none⟩) X3.ps.length c) w' → w'.cell? ⟨bx, 5, none⟩ = some (.int .i64 x'.v.add) := fun w' h => (aks w' h).2.2.2.2.2.1
      have k6 : ∀ w' : World, BxR m bx x' (.slice (some ⟨g, 0, none⟩) X3.ps.length c) w' → w'.cell? ⟨bx, 6, none⟩ = some (.string x'.v.plus) := fun w' h => (aks w' h).2.2.2.2.2.2.1
      have k7 : ∀ w' : World, BxR m bx x' (.slice (some ⟨g, 0, none⟩) X3.ps.length c) w' → w'.cell? ⟨bx, 7, none⟩ = some (.string x'.v.minus) := fun w' h => (aks w' h).2.2.2.2.2.2.2.1
      have k8 : ∀ w' : World, BxR m bx x' (.slice (some ⟨g, 0, none⟩) X3.ps.length c) w' → w'.cell? ⟨bx, 8, none⟩ = some (.int .i64 x'.size) := fun w' h => (aks w' h).2.2.2.2.2.2.2.2.1
      have k9 : ∀ w' : World, BxR m bx x' (.slice (some ⟨g, 0, none⟩) X3.ps.length c) w' → w'.cell? ⟨bx, 9, none⟩ = some x'.b.val := fun w' h => (aks w' h).2.2.2.2.2.2.2.2.2.1
      have k10 : ∀ w' : World, BxR m bx x' (.slice (some ⟨g, 0, none⟩) X3.ps.length c) w' → w'.cell? ⟨bx, 10, none⟩ = some (.int .i64 x'.align) := fun w' h => (aks w' h).2.2.2.2.2.2.2.2.2.2
      clear aks
      refine wp_region_held_drew (S := BxR m bx x' (.slice (some ⟨g, 0, none⟩) X3.ps.length c)) (by kernel_rfl) HH4.out (fun hHeld => ?_)
      refine wpAnyH_take (i := 0) (oi := { dst := some 30, op := Op.move (Operand.tmp 0), type := 83, pos := "ref.go:72", after := #[], guard := none }) (v := ?pbv0) rfl (by kernel_rfl) (by kernel_rfl) (by kernel_rfl) (fun _ _ _ h => h) (Or.inl ⟨by rfl, ?pbh0⟩) (by assumption) ?pbr0
      case pbh0 => ((intro w hSw; (try dsimp only at hSw); go_simp); try with_reducible rfl)
      try simp only [Act.put, List.setIfInBounds_toArray, List.set_cons_zero, List.set_cons_succ]
      refine wpAnyH_take (i := 1) (oi := { dst := some 31, op := Op.nilCheck (Operand.tmp 30), type := 0, pos := "ref.go:72", after := #[{ on := 0, ground := Ground.data }], guard := none }) (v := ?pbv1) rfl (by kernel_rfl) (by kernel_rfl) (by kernel_rfl) (fun _ _ _ h => h) (Or.inl ⟨by rfl, ?pbh1⟩) (by assumption) ?pbr1
      case pbh1 => ((intro w hSw; (try dsimp only at hSw); go_simp); try with_reducible rfl)
      try simp only [Act.put, List.setIfInBounds_toArray, List.set_cons_zero, List.set_cons_succ]
      refine wpAnyH_take (i := 2) (oi := { dst := some 32, op := Op.fieldAddr 85 (Operand.tmp 31) 0, type := 0, pos := "ref.go:72", after := #[{ on := 1, ground := Ground.data }], guard := none }) (v := ?pbv2) rfl (by kernel_rfl) (by kernel_rfl) (by kernel_rfl) (fun _ _ _ h => h) (Or.inl ⟨by rfl, ?pbh2⟩) (by assumption) ?pbr2
      case pbh2 => ((intro w hSw; (try dsimp only at hSw); go_simp); try with_reducible rfl)
      try simp only [Act.put, List.setIfInBounds_toArray, List.set_cons_zero, List.set_cons_succ]
      refine wpAnyH_take (i := 3) (oi := { dst := some 33, op := Op.fieldAddr 32 (Operand.tmp 32) 0, type := 0, pos := "ref.go:72", after := #[{ on := 2, ground := Ground.data }], guard := none }) (v := ?pbv3) rfl (by kernel_rfl) (by kernel_rfl) (by kernel_rfl) (fun _ _ _ h => h) (Or.inl ⟨by rfl, ?pbh3⟩) (by assumption) ?pbr3
      case pbh3 => ((intro w hSw; (try dsimp only at hSw); go_simp); try with_reducible rfl)
      try simp only [Act.put, List.setIfInBounds_toArray, List.set_cons_zero, List.set_cons_succ]
      refine wpAnyH_take (i := 4) (oi := { dst := some 34, op := Op.load 28 (Operand.tmp 33), type := 28, pos := "ref.go:72", after := #[{ on := 3, ground := Ground.data }], guard := none }) (v := ?pbv4) rfl (by kernel_rfl) (by kernel_rfl) (by kernel_rfl) (fun _ _ _ h => h) (Or.inl ⟨by rfl, ?pbh4⟩) (by assumption) ?pbr4
      case pbh4 => ((intro w hSw; (try dsimp only at hSw); go_simp); try with_reducible rfl)
      try simp only [Act.put, List.setIfInBounds_toArray, List.set_cons_zero, List.set_cons_succ]
      refine wpAnyH_take (i := 5) (oi := { dst := some 35, op := Op.move (Operand.tmp 6), type := 3, pos := "ref.go:72", after := #[], guard := none }) (v := ?pbv5) rfl (by kernel_rfl) (by kernel_rfl) (by kernel_rfl) (fun _ _ _ h => h) (Or.inl ⟨by rfl, ?pbh5⟩) (by assumption) ?pbr5
      case pbh5 => ((intro w hSw; (try dsimp only at hSw); go_simp); try with_reducible rfl)
      try simp only [Act.put, List.setIfInBounds_toArray, List.set_cons_zero, List.set_cons_succ]
      refine wpAnyH_take (i := 6) (oi := { dst := some 36, op := Op.move (Operand.tmp 0), type := 83, pos := "ref.go:72", after := #[], guard := none }) (v := ?pbv6) rfl (by kernel_rfl) (by kernel_rfl) (by kernel_rfl) (fun _ _ _ h => h) (Or.inl ⟨by rfl, ?pbh6⟩) (by assumption) ?pbr6
      case pbh6 => ((intro w hSw; (try dsimp only at hSw); go_simp); try with_reducible rfl)
      try simp only [Act.put, List.setIfInBounds_toArray, List.set_cons_zero, List.set_cons_succ]
      refine wpAnyH_take (i := 7) (oi := { dst := some 37, op := Op.nilCheck (Operand.tmp 36), type := 0, pos := "ref.go:72", after := #[{ on := 6, ground := Ground.data }], guard := none }) (v := ?pbv7) rfl (by kernel_rfl) (by kernel_rfl) (by kernel_rfl) (fun _ _ _ h => h) (Or.inl ⟨by rfl, ?pbh7⟩) (by assumption) ?pbr7
      case pbh7 => ((intro w hSw; (try dsimp only at hSw); go_simp); try with_reducible rfl)
      try simp only [Act.put, List.setIfInBounds_toArray, List.set_cons_zero, List.set_cons_succ]
      refine wpAnyH_take (i := 8) (oi := { dst := some 38, op := Op.fieldAddr 85 (Operand.tmp 37) 0, type := 0, pos := "ref.go:72", after := #[{ on := 7, ground := Ground.data }], guard := none }) (v := ?pbv8) rfl (by kernel_rfl) (by kernel_rfl) (by kernel_rfl) (fun _ _ _ h => h) (Or.inl ⟨by rfl, ?pbh8⟩) (by assumption) ?pbr8
      case pbh8 => ((intro w hSw; (try dsimp only at hSw); go_simp); try with_reducible rfl)
      try simp only [Act.put, List.setIfInBounds_toArray, List.set_cons_zero, List.set_cons_succ]
      refine wpAnyH_take (i := 9) (oi := { dst := some 39, op := Op.fieldAddr 32 (Operand.tmp 38) 0, type := 0, pos := "ref.go:72", after := #[{ on := 8, ground := Ground.data }], guard := none }) (v := ?pbv9) rfl (by kernel_rfl) (by kernel_rfl) (by kernel_rfl) (fun _ _ _ h => h) (Or.inl ⟨by rfl, ?pbh9⟩) (by assumption) ?pbr9
      case pbh9 => ((intro w hSw; (try dsimp only at hSw); go_simp); try with_reducible rfl)
      try simp only [Act.put, List.setIfInBounds_toArray, List.set_cons_zero, List.set_cons_succ]
      refine wpAnyH_take (i := 10) (oi := { dst := some 40, op := Op.load 28 (Operand.tmp 39), type := 28, pos := "ref.go:72", after := #[{ on := 9, ground := Ground.data }], guard := none }) (v := ?pbv10) rfl (by kernel_rfl) (by kernel_rfl) (by kernel_rfl) (fun _ _ _ h => h) (Or.inl ⟨by rfl, ?pbh10⟩) (by assumption) ?pbr10
      case pbh10 => ((intro w hSw; (try dsimp only at hSw); go_simp); try with_reducible rfl)
      try simp only [Act.put, List.setIfInBounds_toArray, List.set_cons_zero, List.set_cons_succ]
      refine wpAnyH_take (i := 11) (oi := { dst := some 41, op := Op.move (Operand.tmp 6), type := 3, pos := "ref.go:72", after := #[], guard := none }) (v := ?pbv11) rfl (by kernel_rfl) (by kernel_rfl) (by kernel_rfl) (fun _ _ _ h => h) (Or.inl ⟨by rfl, ?pbh11⟩) (by assumption) ?pbr11
      case pbh11 => ((intro w hSw; (try dsimp only at hSw); go_simp); try with_reducible rfl)
      try simp only [Act.put, List.setIfInBounds_toArray, List.set_cons_zero, List.set_cons_succ]
      refine wpAnyH_take (i := 12) (oi := { dst := some 42, op := Op.indexAddr 28 (Operand.tmp 40) (Operand.tmp 41), type := 0, pos := "ref.go:72", after := #[{ on := 10, ground := Ground.data }, { on := 11, ground := Ground.data }], guard := none }) (v := ?pbv12) rfl (by kernel_rfl) (by kernel_rfl) (by kernel_rfl) (fun _ _ _ h => h) (Or.inl ⟨by rfl, ?pbh12⟩) (by assumption) ?pbr12
      case pbh12 => ((intro w hSw; (try dsimp only at hSw); go_simp); try with_reducible rfl)
      try simp only [Act.put, List.setIfInBounds_toArray, List.set_cons_zero, List.set_cons_succ]
      refine wpAnyH_take (i := 13) (oi := { dst := some 43, op := Op.fieldAddr 50 (Operand.tmp 42) 3, type := 0, pos := "ref.go:72", after := #[{ on := 12, ground := Ground.data }], guard := none }) (v := ?pbv13) rfl (by kernel_rfl) (by kernel_rfl) (by kernel_rfl) (fun _ _ _ h => h) (Or.inl ⟨by rfl, ?pbh13⟩) (by assumption) ?pbr13
      case pbh13 => ((intro w hSw; (try dsimp only at hSw); go_simp); try with_reducible rfl)
      try simp only [Act.put, List.setIfInBounds_toArray, List.set_cons_zero, List.set_cons_succ]
      refine wpAnyH_take (i := 15) (oi := { dst := some 45, op := Op.load 64 (Operand.tmp 4), type := 64, pos := "ref.go:72", after := #[], guard := none }) (v := ?pbv15) rfl (by kernel_rfl) (by kernel_rfl) (by kernel_rfl) (fun _ _ _ h => h) (Or.inl ⟨by rfl, ?pbh15⟩) (by assumption) ?pbr15
      case pbh15 => ((intro w hSw; (try dsimp only at hSw); go_simp); try with_reducible rfl)
      try simp only [Act.put, List.setIfInBounds_toArray, List.set_cons_zero, List.set_cons_succ]
      refine wpAnyH_ready (rs := [14, 16]) (by kernel_rfl) (by simp) ?_
      refine AllReadyH.cons (o := { dst := some 44, op := Op.load 48 (Operand.tmp 43), type := 48, pos := "ref.go:72", after := #[{ on := 13, ground := Ground.data }], guard := none }) rfl (fun K hK => ?_) ?_
      · go_simp; refine hK.out _ _ (by first | exact HH4.out | exact HSL.out _) (fun hHeld => ?_)
        clear hK K
        try simp only [Act.put, List.setIfInBounds_toArray, List.set_cons_zero, List.set_cons_succ]
        refine wpAnyH_ready (rs := [16]) (by kernel_rfl) (by simp) ?_
        refine AllReadyH.cons (o := { dst := some 46, op := Op.buildSlice 48 1 #[(0, Operand.tmp 45)], type := 48, pos := "ref.go:72", after := #[{ on := 15, ground := Ground.data }], guard := none }) rfl (fun K hK => ?_) AllReadyH.nil
        go_simp; refine hK.out _ _ (HSL.out _) (fun hHeld => ?_)
        clear hK K
        try simp only [Act.put, List.setIfInBounds_toArray, List.set_cons_zero, List.set_cons_succ]
        refine wpAnyH_ready (rs := [17]) (by kernel_rfl) (by simp) ?_
        refine AllReadyH.cons (o := { dst := some 47, op := Op.call { callee := Callee.builtin Builtin.append, args := #[Operand.tmp 44, Operand.tmp 46], argTypes := #[48, 48] }, type := 48, pos := "ref.go:72", after := #[{ on := 14, ground := Ground.data }, { on := 16, ground := Ground.data }], guard := none }) rfl (fun K hK => ?_) AllReadyH.nil
        (refine step_app EPiece rfl (.tmp 44) (.tmp 46) rfl base (.slice yp yl.length yc) yl.length (yl.flatMap PcR.cells) rfl (HY7.out.alloc _) _ 1 1 x'.cells rfl rfl (row_newAt _ _ _ _ rfl) (pcr_ones _) (by unfold maxLen; omega) (by omega) (by simp; omega) ?_); intro vp' w8 ho8 hg8 hs8; obtain ⟨p8, c8, rfl, -⟩ := own_shape ho8; have HO8 := hid ho8; have HG8 := hid hg8; have HS8 := hid hs8; clear ho8 hg8 hs8; obtain ⟨hh8, z8, zf8⟩ := HK8.out _ _ HG8.out; have HH8 := hid hh8; clear hh8; refine hK.out _ _ HH8.out (fun hHeld => ?_)
        clear hK K
        try simp only [Act.put, List.setIfInBounds_toArray, List.set_cons_zero, List.set_cons_succ]
        refine wpAnyH_take (i := 18) (oi := { dst := some 48, op := Op.indexAddr 28 (Operand.tmp 34) (Operand.tmp 35), type := 0, pos := "ref.go:72", after := #[{ on := 4, ground := Ground.data }, { on := 5, ground := Ground.data }, { on := 0, ground := Ground.phase }, { on := 1, ground := Ground.phase }, { on := 2, ground := Ground.phase }, { on := 3, ground := Ground.phase }, { on := 4, ground := Ground.phase }, { on := 5, ground := Ground.phase }, { on := 6, ground := Ground.phase }, { on := 7, ground := Ground.phase }, { on := 8, ground := Ground.phase }, { on := 9, ground := Ground.phase }, { on := 10, ground := Ground.phase }, { on := 11, ground := Ground.phase }, { on := 12, ground := Ground.phase }, { on := 13, ground := Ground.phase }, { on := 14, ground := Ground.phase }, { on := 15, ground := Ground.phase }, { on := 16, ground := Ground.phase }, { on := 17, ground := Ground.phase }], guard := none }) (v := ?pbav18) rfl (by kernel_rfl) (by kernel_rfl) (by kernel_rfl) (fun _ _ _ h => h) (Or.inl ⟨by rfl, ?pbah18⟩) (by assumption) ?pbar18
        case pbah18 => ((intro w hSw; (try dsimp only at hSw); go_simp); try with_reducible rfl)
        try simp only [Act.put, List.setIfInBounds_toArray, List.set_cons_zero, List.set_cons_succ]
        refine wpAnyH_take (i := 19) (oi := { dst := some 49, op := Op.fieldAddr 50 (Operand.tmp 48) 3, type := 0, pos := "ref.go:72", after := #[{ on := 18, ground := Ground.data }, { on := 0, ground := Ground.phase }, { on := 1, ground := Ground.phase }, { on := 2, ground := Ground.phase }, { on := 3, ground := Ground.phase }, { on := 4, ground := Ground.phase }, { on := 5, ground := Ground.phase }, { on := 6, ground := Ground.phase }, { on := 7, ground := Ground.phase }, { on := 8, ground := Ground.phase }, { on := 9, ground := Ground.phase }, { on := 10, ground := Ground.phase }, { on := 11, ground := Ground.phase }, { on := 12, ground := Ground.phase }, { on := 13, ground := Ground.phase }, { on := 14, ground := Ground.phase }, { on := 15, ground := Ground.phase }, { on := 16, ground := Ground.phase }, { on := 17, ground := Ground.phase }], guard := none }) (v := ?pbav19) rfl (by kernel_rfl) (by kernel_rfl) (by kernel_rfl) (fun _ _ _ h => h) (Or.inl ⟨by rfl, ?pbah19⟩) (by assumption) ?pbar19
        case pbah19 => ((intro w hSw; (try dsimp only at hSw); go_simp); try with_reducible rfl)
        try simp only [Act.put, List.setIfInBounds_toArray, List.set_cons_zero, List.set_cons_succ]
        refine wpAnyH_ready (rs := [20]) (by kernel_rfl) (by simp) ?_
        refine AllReadyH.cons (o := { dst := none, op := Op.store 48 (Operand.tmp 49) (Operand.tmp 47), type := 0, pos := "ref.go:72", after := #[{ on := 19, ground := Ground.data }, { on := 17, ground := Ground.data }, { on := 17, ground := Ground.chain }, { on := 0, ground := Ground.phase }, { on := 1, ground := Ground.phase }, { on := 2, ground := Ground.phase }, { on := 3, ground := Ground.phase }, { on := 4, ground := Ground.phase }, { on := 5, ground := Ground.phase }, { on := 6, ground := Ground.phase }, { on := 7, ground := Ground.phase }, { on := 8, ground := Ground.phase }, { on := 9, ground := Ground.phase }, { on := 10, ground := Ground.phase }, { on := 11, ground := Ground.phase }, { on := 12, ground := Ground.phase }, { on := 13, ground := Ground.phase }, { on := 14, ground := Ground.phase }, { on := 15, ground := Ground.phase }, { on := 16, ground := Ground.phase }, { on := 17, ground := Ground.phase }], guard := none }) rfl (fun K hK => ?_) AllReadyH.nil
        go_simp; refine hK.out _ _ (HBS.out _ _ HH8.out) (fun hHeld => ?_)
        clear hK K
        try simp only [Act.put, List.setIfInBounds_toArray, List.set_cons_zero, List.set_cons_succ]
        refine wpAnyH_done (by kernel_rfl) ?_ _
        go_wp2_with fail
        go_end0
        exact HFIN.out _ _ _ _ HO8.out HG8.out HS8.out
      refine AllReadyH.cons (o := { dst := some 46, op := Op.buildSlice 48 1 #[(0, Operand.tmp 45)], type := 48, pos := "ref.go:72", after := #[{ on := 15, ground := Ground.data }], guard := none }) rfl (fun K hK => ?_) AllReadyH.nil
      go_simp; refine hK.out _ _ (HSL.out _) (fun hHeld => ?_)
      clear hK K
      try simp only [Act.put, List.setIfInBounds_toArray, List.set_cons_zero, List.set_cons_succ]
      refine wpAnyH_ready (rs := [14]) (by kernel_rfl) (by simp) ?_
      refine AllReadyH.cons (o := { dst := some 44, op := Op.load 48 (Operand.tmp 43), type := 48, pos := "ref.go:72", after := #[{ on := 13, ground := Ground.data }], guard := none }) rfl (fun K hK => ?_) AllReadyH.nil
      go_simp; refine hK.out _ _ (by first | exact HH4.out | exact HSL.out _) (fun hHeld => ?_)
      clear hK K
      try simp only [Act.put, List.setIfInBounds_toArray, List.set_cons_zero, List.set_cons_succ]
      refine wpAnyH_ready (rs := [17]) (by kernel_rfl) (by simp) ?_
      refine AllReadyH.cons (o := { dst := some 47, op := Op.call { callee := Callee.builtin Builtin.append, args := #[Operand.tmp 44, Operand.tmp 46], argTypes := #[48, 48] }, type := 48, pos := "ref.go:72", after := #[{ on := 14, ground := Ground.data }, { on := 16, ground := Ground.data }], guard := none }) rfl (fun K hK => ?_) AllReadyH.nil
      (refine step_app EPiece rfl (.tmp 44) (.tmp 46) rfl base (.slice yp yl.length yc) yl.length (yl.flatMap PcR.cells) rfl (HY7.out.alloc _) _ 1 1 x'.cells rfl rfl (row_newAt _ _ _ _ rfl) (pcr_ones _) (by unfold maxLen; omega) (by omega) (by simp; omega) ?_); intro vp' w8 ho8 hg8 hs8; obtain ⟨p8, c8, rfl, -⟩ := own_shape ho8; have HO8 := hid ho8; have HG8 := hid hg8; have HS8 := hid hs8; clear ho8 hg8 hs8; obtain ⟨hh8, z8, zf8⟩ := HK8.out _ _ HG8.out; have HH8 := hid hh8; clear hh8; refine hK.out _ _ HH8.out (fun hHeld => ?_)
      clear hK K
      try simp only [Act.put, List.setIfInBounds_toArray, List.set_cons_zero, List.set_cons_succ]
      refine wpAnyH_take (i := 18) (oi := { dst := some 48, op := Op.indexAddr 28 (Operand.tmp 34) (Operand.tmp 35), type := 0, pos := "ref.go:72", after := #[{ on := 4, ground := Ground.data }, { on := 5, ground := Ground.data }, { on := 0, ground := Ground.phase }, { on := 1, ground := Ground.phase }, { on := 2, ground := Ground.phase }, { on := 3, ground := Ground.phase }, { on := 4, ground := Ground.phase }, { on := 5, ground := Ground.phase }, { on := 6, ground := Ground.phase }, { on := 7, ground := Ground.phase }, { on := 8, ground := Ground.phase }, { on := 9, ground := Ground.phase }, { on := 10, ground := Ground.phase }, { on := 11, ground := Ground.phase }, { on := 12, ground := Ground.phase }, { on := 13, ground := Ground.phase }, { on := 14, ground := Ground.phase }, { on := 15, ground := Ground.phase }, { on := 16, ground := Ground.phase }, { on := 17, ground := Ground.phase }], guard := none }) (v := ?pbbv18) rfl (by kernel_rfl) (by kernel_rfl) (by kernel_rfl) (fun _ _ _ h => h) (Or.inl ⟨by rfl, ?pbbh18⟩) (by assumption) ?pbbr18
      case pbbh18 => ((intro w hSw; (try dsimp only at hSw); go_simp); try with_reducible rfl)
      try simp only [Act.put, List.setIfInBounds_toArray, List.set_cons_zero, List.set_cons_succ]
      refine wpAnyH_take (i := 19) (oi := { dst := some 49, op := Op.fieldAddr 50 (Operand.tmp 48) 3, type := 0, pos := "ref.go:72", after := #[{ on := 18, ground := Ground.data }, { on := 0, ground := Ground.phase }, { on := 1, ground := Ground.phase }, { on := 2, ground := Ground.phase }, { on := 3, ground := Ground.phase }, { on := 4, ground := Ground.phase }, { on := 5, ground := Ground.phase }, { on := 6, ground := Ground.phase }, { on := 7, ground := Ground.phase }, { on := 8, ground := Ground.phase }, { on := 9, ground := Ground.phase }, { on := 10, ground := Ground.phase }, { on := 11, ground := Ground.phase }, { on := 12, ground := Ground.phase }, { on := 13, ground := Ground.phase }, { on := 14, ground := Ground.phase }, { on := 15, ground := Ground.phase }, { on := 16, ground := Ground.phase }, { on := 17, ground := Ground.phase }], guard := none }) (v := ?pbbv19) rfl (by kernel_rfl) (by kernel_rfl) (by kernel_rfl) (fun _ _ _ h => h) (Or.inl ⟨by rfl, ?pbbh19⟩) (by assumption) ?pbbr19
      case pbbh19 => ((intro w hSw; (try dsimp only at hSw); go_simp); try with_reducible rfl)
      try simp only [Act.put, List.setIfInBounds_toArray, List.set_cons_zero, List.set_cons_succ]
      refine wpAnyH_ready (rs := [20]) (by kernel_rfl) (by simp) ?_
      refine AllReadyH.cons (o := { dst := none, op := Op.store 48 (Operand.tmp 49) (Operand.tmp 47), type := 0, pos := "ref.go:72", after := #[{ on := 19, ground := Ground.data }, { on := 17, ground := Ground.data }, { on := 17, ground := Ground.chain }, { on := 0, ground := Ground.phase }, { on := 1, ground := Ground.phase }, { on := 2, ground := Ground.phase }, { on := 3, ground := Ground.phase }, { on := 4, ground := Ground.phase }, { on := 5, ground := Ground.phase }, { on := 6, ground := Ground.phase }, { on := 7, ground := Ground.phase }, { on := 8, ground := Ground.phase }, { on := 9, ground := Ground.phase }, { on := 10, ground := Ground.phase }, { on := 11, ground := Ground.phase }, { on := 12, ground := Ground.phase }, { on := 13, ground := Ground.phase }, { on := 14, ground := Ground.phase }, { on := 15, ground := Ground.phase }, { on := 16, ground := Ground.phase }, { on := 17, ground := Ground.phase }], guard := none }) rfl (fun K hK => ?_) AllReadyH.nil
      go_simp; refine hK.out _ _ (HBS.out _ _ HH8.out) (fun hHeld => ?_)
      clear hK K
      try simp only [Act.put, List.setIfInBounds_toArray, List.set_cons_zero, List.set_cons_succ]
      refine wpAnyH_done (by kernel_rfl) ?_ _
      go_wp2_with fail
      go_end0
      exact HFIN.out _ _ _ _ HO8.out HG8.out HS8.out
end Go.Proofs.Ythlingholhjcnaa
namespace Go.Proofs.Ythlingholhjcnaa
open Go.RowKit
variable {W W' w w' : World} {base m : Nat} {X X' : FV} {file line : Int} {name : ByteArray}

/-- What mark reads besides the marks. -/
structure RMk (m g q bv : Nat) (pv yv : Value) (v : Vv) (file line : Int) (name : ByteArray) (w' : World) : Prop where
  fl : FL m 4 file line name w'
  p : w'.cell? ⟨m, 0, none⟩ = some pv
  y : w'.cell? ⟨g, q, none⟩ = some yv
  v : w'.heap[bv]? = some (.cells v.cells.toArray 62 (0, 0))
theorem RMk.blk {g q bv : Nat} {pv yv : Value} {v : Vv} (h : RMk m g q bv pv yv v file line name W) (hm : W'.heap[m]? = W.heap[m]?) (hg : W'.heap[g]? = W.heap[g]?) (hb : W'.heap[bv]? = W.heap[bv]?) : RMk m g q bv pv yv v file line name W' :=
  ⟨h.fl.blk hm, (World.cell?_of_block (a := ⟨m, 0, none⟩) hm).trans h.p, (World.cell?_of_block (a := ⟨g, q, none⟩) hg).trans h.y, hb.trans h.v⟩
set_option maxRecDepth 20000 in
set_option maxHeartbeats 4000000 in
theorem rmark_any (h : RkN W base m X file line name) {n : Nat} (hn : Sm X n) (hn2 : n ≤ 4000000) (nm : ByteArray) (equ : Bool) (v : Vv) :
    Calls Try.prog 24 #[.pointer (some ⟨m, 0, none⟩), .string nm, .bool equ, .agg v.cells.toArray] W (RPutT W base m file line name (X.pl.mark file line name nm equ v) (n + 1)) := by
  have HC := hid h
  have HN := hid hn
  obtain ⟨W1, hW1⟩ : ∃ W1, W1 = W.alloc (.cells v.cells.toArray 62) := ⟨_, rfl⟩
  have hb1 : Below W.heap.size W W1 := by rw [hW1]; exact alloc_below _ _
  have hx1 : W1.heap[W.heap.size]? = some (.cells v.cells.toArray 62 (0, 0)) := by rw [hW1]; exact heap_alloc_new _ _
  have HB1 := hid hb1
  have HX1 := hid hx1
  have HW1 := hid hW1
  have h1 := h.below hb1
  have H1 := hid h1
  have HF := hid (rfault_any h1 (Nat.le_trans hn.fs (by omega)) 3)
  have HP := hid (rpart_any h1 (Nat.le_trans hn.ps (by omega)))
  clear h hn hb1 hx1 h1 hW1
  by_cases hlong : 255 < nm.size
  · have hlI : (255 : Int) < (nm.size : Int) := by omega
    go_enter Try.func24, Try.ntmps24
    go_upto_region 1 with (fail)
    rw [← HW1.out]
    go_wp2_with (go_at_call 41; (with_reducible refine HF.out.mono ?_); rintro e w3 ⟨rfl, ⟨v', h3⟩, ht3⟩; have H3 := hid h3; have HT3 := hid ht3; clear h3 ht3)
    go_end0
    refine ⟨rfl, (TrnP.below HB1.out HC.out.hz).trans HT3.out, _, H3.out, ?_, ?_⟩
    · unfold FP.mark; rw [if_pos hlong]; rfl
    · have q := HN.out
      exact ⟨Nat.le_succ_of_le q.ps, Nat.le_succ_of_le q.ms, Nat.le_succ_of_le q.gs, by show (X.fs ++ [_]).length ≤ _; rw [List.length_append]; have := q.fs; simp; omega, fun y hy => Nat.le_succ_of_le (q.pcs y hy)⟩
  · have hlI : ¬ (255 : Int) < (nm.size : Int) := by omega
    have HLG := hid hlong
    clear hlong
    go_enter Try.func24, Try.ntmps24
    go_upto_region 1 with (fail)
    rw [← HW1.out]
    go_upto_region 4 with (go_at_call 42; (with_reducible refine HP.out.mono ?_); rintro e w3 ⟨X3, i, rfl, hi3, h3, ht3, hp3⟩)
    have hb3 : w3.heap[W.heap.size]? = some (.cells v.cells.toArray 62 (0, 0)) := (ht3.2.tag _ _ (tag_row HX1.out) (.inl (by unfold isPT; decide))).trans HX1.out
    have hml3 : m < w3.heap.size := h3.lt
    obtain ⟨g, c, hpv, hge, hgl, -, -⟩ := own_block h3.is.parts (by omega : 0 < X3.ps.length)
    have hpar := h3.is.parts
    rw [hpv] at hpar
    obtain ⟨pr, cr, er, hrow⟩ := own_shape hpar
    cases er
    obtain ⟨y, hy⟩ : ∃ y, X3.ps[i]? = some y := ⟨_, List.getElem?_eq_getElem hi3⟩
    have HYL : Hid (y.pieces.l.length ≤ n) := hp3.pcs HN.out y (List.mem_of_getElem? hy)
    have d3 := (ptr_cells hrow i hi3).2.2.2
    have hgey : X3.ps[i]'hi3 = y := (List.getElem?_eq_some_iff.1 hy).2
    rw [hgey, Nat.zero_add] at d3
    have c0 : w3.cell? ⟨m, 0, none⟩ = some (.slice (some ⟨g, 0, none⟩) X3.ps.length c) := by rw [← hpv]; exact h3.cells.1
    have HTR : Hid (Trn base W w3) := (TrnP.below HB1.out HC.out.hz).trans ht3.pt
    obtain ⟨pm, cm, hvc, -⟩ := own_shape h3.is.marks
    have c1 := h3.cells.2.1
    rw [hvc] at c1
    have hz3 := h3.hz
    have HP7 : Hid (w3.ownsRow base 81 9 (.slice pm X3.ms.length cm) X3.ms.length (X3.ms.flatMap Mk.cells)) := by have := h3.is.marks; rw [hvc] at this; exact this
    have HVC : Hid (X3.mv.ownBlock = (Value.slice pm X3.ms.length cm).ownBlock) := by unfold Hid; rw [hvc]
    have hmsl : X3.ms.length ≤ n := by rw [hp3.ms]; exact HN.out.ms
    have hpln : X3.ps.length ≤ n + 1 := (hp3.sm HN.out).ps
    have hii : (i : Int) < X3.ps.length := by omega
    have tg : tagAt w3 g = some (50 + 1) := own_tag hpar (g := g) rfl
    have hmt := h3.tagM
    generalize W.heap.size = bv at *
    have hbl : bv < w3.heap.size := (Array.getElem?_eq_some_iff.1 hb3).1
    have hmb : m ≠ bv := tag_ne hmt (tag_row hb3) (by decide)
    have hgm : g ≠ m := tag_ne tg hmt (by decide)
    obtain ⟨len, hlen⟩ : ∃ len, len = y.pieces.l.length := ⟨_, rfl⟩
    have HLEN := hid hlen
    have d3 : w3.cell? ⟨g, i * 4 + 3, none⟩ = some (.slice y.pieces.p len y.pieces.c) := by rw [hlen]; exact d3
    have HH0 : Hid (RMk m g (i * 4 + 3) bv (.slice (some ⟨g, 0, none⟩) X3.ps.length c) (.slice y.pieces.p len y.pieces.c) v file line name w3.drew) := ⟨h3.cells.2.2.2.2.drew, c0, d3, hb3⟩
    have HSL : Hid (∀ o : Obj, RMk m g (i * 4 + 3) bv (.slice (some ⟨g, 0, none⟩) X3.ps.length c) (.slice y.pieces.p len y.pieces.c) v file line name (w3.alloc o).drew) := fun o => HH0.out.blk (Below.heap_alloc w3 o m hml3) (Below.heap_alloc w3 o g hgl) (Below.heap_alloc w3 o bv hbl)
    have c1L : ∀ o : Obj, (w3.alloc o).cell? ⟨m, 1, none⟩ = some (.slice pm X3.ms.length cm) := fun o => (World.cell?_of_block (a := ⟨m, 1, none⟩) (Below.heap_alloc w3 o m hml3)).trans c1
    have H3 := hid h3
    have HP3 := hid hp3
    have HY := hid hy
    have HB3 := hid hb3
    have HTG := hid tg
    have HK8 : Hid (∀ (o : Obj) (w8 : World), (w3.alloc o).drew.grownBy w8 (Value.slice pm X3.ms.length cm).ownBlock → RMk m g (i * 4 + 3) bv (.slice (some ⟨g, 0, none⟩) X3.ps.length c) (.slice y.pieces.p len y.pieces.c) v file line name w8 ∧ w8.heap[m]? = some (.cells (headR X3 file line name) 85 (0, 0))) := fun o w8 hg => by
      have hg2 := grown_undrew hg
      have tmv : ∀ q, some q = (Value.slice pm X3.ms.length cm).ownBlock → tagAt w3 q = some (81 + 1) := fun q e => own_tag HP7.out e.symm
      have k : ∀ q x, tagAt w3 q = some x → x ≠ 81 + 1 → w8.heap[q]? = w3.heap[q]? := fun q x hq hx => (hg2.block q (by simp; have := tag_lt hq; omega) (fun e => tag_ne (tmv q e) hq (Ne.symm hx) rfl)).trans (Below.heap_alloc w3 o q (tag_lt hq))
      exact ⟨HH0.out.blk (W := w3.drew) (k m _ H3.out.tagM (by decide)) (k g _ HTG.out (by decide)) (k bv _ (tag_row HB3.out) (by decide)), (k m _ H3.out.tagM (by decide)).trans H3.out.head⟩
    have HBS : Hid (∀ (w' : World) (u : Value), RMk m g (i * 4 + 3) bv (.slice (some ⟨g, 0, none⟩) X3.ps.length c) (.slice y.pieces.p len y.pieces.c) v file line name w' → RMk m g (i * 4 + 3) bv (.slice (some ⟨g, 0, none⟩) X3.ps.length c) (.slice y.pieces.p len y.pieces.c) v file line name (w'.setCell ⟨m, 1, none⟩ u)) := fun w' u hw =>
      ⟨hw.fl.set (by decide) u, (World.cell?_setCell_other _ _ _ _ (fun e => by injection e with e1 e2; cases e2)).trans hw.p, (World.cell?_of_block (a := ⟨g, i * 4 + 3, none⟩) (heap_setCell_other _ _ _ _ hgm)).trans hw.y, (heap_setCell_other _ _ _ _ (Ne.symm hmb)).trans hw.v⟩
    have HFIN : Hid (∀ (o : Obj) (w8 : World) (v' : Value), w8.ownsRow base 81 9 v' (X3.ms.length + 1) (X3.ms.flatMap Mk.cells ++ Mk.cells ⟨nm, file, line, (i : Nat), (len : Nat), equ, v⟩) → (w3.alloc o).drew.grownBy w8 (Value.slice pm X3.ms.length cm).ownBlock →
        RPutT W base m file line name (X.pl.mark file line name nm equ v) (n + 1) (.returned (.tuple #[])) (w8.setCell ⟨m, 1, none⟩ v')) := fun o w8 v' ho8 hg8 => by
      have hfin := H3.out.finMark ⟨nm, file, line, (i : Nat), (len : Nat), equ, v⟩ ho8 (by rw [HVC.out]; exact hg8)
      refine ⟨rfl, HTR.out.trans hfin.2, { X3 with mv := v', ms := X3.ms ++ [⟨nm, file, line, (i : Nat), (len : Nat), equ, v⟩] }, hfin.1, ?_, ?_⟩
      · unfold FP.mark
        rw [if_neg HLG.out, HP3.out.plain]
        have e : pcsAt X3.pl i = len := by
          unfold pcsAt FV.pl
          dsimp only
          rw [List.getElem?_map, HY.out, HLEN.out]
          simp [PtR.pl]
        show (⟨X3.ps.map PtR.pl, X3.ms ++ [_], X3.gs, X3.fs⟩ : FP) = _
        dsimp only
        rw [e, HP3.out.ms]
        rfl
      · have hsm := HP3.out.sm HN.out
        have := HN.out.ms
        refine ⟨hsm.ps, ?_, hsm.gs, hsm.fs, hsm.pcs⟩
        show (X3.ms ++ [_]).length ≤ n + 1
        rw [List.length_append, HP3.out.ms]; simp; omega
    clear h3 hb3 hy hpar hrow hgey hp3 ht3 hpv hvc d3 c0 hlen tg hmt
    generalize hml2 : X3.ms.length = ml at *
    generalize hpl2 : X3.ps.length = pl at *
    clear hml2 hpl2
    have a4 : ∀ w' : World, RMk m g (i * 4 + 3) bv (.slice (some ⟨g, 0, none⟩) pl c) (.slice y.pieces.p len y.pieces.c) v file line name w' → w'.cell? ⟨m, 4, none⟩ = some (.int .i64 file) := fun _ h => h.fl.f
    have a5 : ∀ w' : World, RMk m g (i * 4 + 3) bv (.slice (some ⟨g, 0, none⟩) pl c) (.slice y.pieces.p len y.pieces.c) v file line name w' → w'.cell? ⟨m, 5, none⟩ = some (.int .i64 line) := fun _ h => h.fl.l
    have a0 : ∀ w' : World, RMk m g (i * 4 + 3) bv (.slice (some ⟨g, 0, none⟩) pl c) (.slice y.pieces.p len y.pieces.c) v file line name w' → w'.cell? ⟨m, 0, none⟩ = some (.slice (some ⟨g, 0, none⟩) pl c) := fun _ h => h.p
    have a3 : ∀ w' : World, RMk m g (i * 4 + 3) bv (.slice (some ⟨g, 0, none⟩) pl c) (.slice y.pieces.p len y.pieces.c) v file line name w' → w'.cell? ⟨g, i * 4 + 3, none⟩ = some (.slice y.pieces.p len y.pieces.c) := fun _ h => h.y
    have b0 : ∀ w' : World, RMk m g (i * 4 + 3) bv (.slice (some ⟨g, 0, none⟩) pl c) (.slice y.pieces.p len y.pieces.c) v file line name w' → w'.cell? ⟨bv, 0, none⟩ = some (.int .i64 v.add) := fun _ h => cell_of_row _ _ 0 _ _ _ h.v
    have b1 : ∀ w' : World, RMk m g (i * 4 + 3) bv (.slice (some ⟨g, 0, none⟩) pl c) (.slice y.pieces.p len y.pieces.c) v file line name w' → w'.cell? ⟨bv, 1, none⟩ = some (.string v.plus) := fun _ h => cell_of_row _ _ 1 _ _ _ h.v
    have b2 : ∀ w' : World, RMk m g (i * 4 + 3) bv (.slice (some ⟨g, 0, none⟩) pl c) (.slice y.pieces.p len y.pieces.c) v file line name w' → w'.cell? ⟨bv, 2, none⟩ = some (.string v.minus) := fun _ h => cell_of_row _ _ 2 _ _ _ h.v
    refine wp_region_held_drew (S := RMk m g (i * 4 + 3) bv (.slice (some ⟨g, 0, none⟩) pl c) (.slice y.pieces.p len y.pieces.c) v file line name) (by kernel_rfl) HH0.out (fun hHeld => ?_)
    refine wpAnyH_take (i := 0) (oi := { dst := some 16, op := Op.move (Operand.tmp 0), type := 83, pos := "ref.go:60", after := #[], guard := none }) (v := ?pbv0) rfl (by kernel_rfl) (by kernel_rfl) (by kernel_rfl) (fun _ _ _ h => h) (Or.inl ⟨by rfl, ?pbh0⟩) (by assumption) ?pbr0
    case pbh0 => ((intro w hSw; (try dsimp only at hSw); go_simp); try with_reducible rfl)
    try simp only [Act.put, List.setIfInBounds_toArray, List.set_cons_zero, List.set_cons_succ]
    refine wpAnyH_take (i := 1) (oi := { dst := some 17, op := Op.move (Operand.tmp 0), type := 83, pos := "ref.go:60", after := #[], guard := none }) (v := ?pbv1) rfl (by kernel_rfl) (by kernel_rfl) (by kernel_rfl) (fun _ _ _ h => h) (Or.inl ⟨by rfl, ?pbh1⟩) (by assumption) ?pbr1
    case pbh1 => ((intro w hSw; (try dsimp only at hSw); go_simp); try with_reducible rfl)
    try simp only [Act.put, List.setIfInBounds_toArray, List.set_cons_zero, List.set_cons_succ]
    refine wpAnyH_take (i := 2) (oi := { dst := some 18, op := Op.nilCheck (Operand.tmp 17), type := 0, pos := "ref.go:60", after := #[{ on := 1, ground := Ground.data }], guard := none }) (v := ?pbv2) rfl (by kernel_rfl) (by kernel_rfl) (by kernel_rfl) (fun _ _ _ h => h) (Or.inl ⟨by rfl, ?pbh2⟩) (by assumption) ?pbr2
    case pbh2 => ((intro w hSw; (try dsimp only at hSw); go_simp); try with_reducible rfl)
    try simp only [Act.put, List.setIfInBounds_toArray, List.set_cons_zero, List.set_cons_succ]
    refine wpAnyH_take (i := 3) (oi := { dst := some 19, op := Op.fieldAddr 85 (Operand.tmp 18) 0, type := 0, pos := "ref.go:60", after := #[{ on := 2, ground := Ground.data }], guard := none }) (v := ?pbv3) rfl (by kernel_rfl) (by kernel_rfl) (by kernel_rfl) (fun _ _ _ h => h) (Or.inl ⟨by rfl, ?pbh3⟩) (by assumption) ?pbr3
    case pbh3 => ((intro w hSw; (try dsimp only at hSw); go_simp); try with_reducible rfl)
    try simp only [Act.put, List.setIfInBounds_toArray, List.set_cons_zero, List.set_cons_succ]
    refine wpAnyH_take (i := 4) (oi := { dst := some 20, op := Op.fieldAddr 32 (Operand.tmp 19) 1, type := 0, pos := "ref.go:60", after := #[{ on := 3, ground := Ground.data }], guard := none }) (v := ?pbv4) rfl (by kernel_rfl) (by kernel_rfl) (by kernel_rfl) (fun _ _ _ h => h) (Or.inl ⟨by rfl, ?pbh4⟩) (by assumption) ?pbr4
    case pbh4 => ((intro w hSw; (try dsimp only at hSw); go_simp); try with_reducible rfl)
    try simp only [Act.put, List.setIfInBounds_toArray, List.set_cons_zero, List.set_cons_succ]
    refine wpAnyH_take (i := 6) (oi := { dst := some 22, op := Op.move (Operand.tmp 1), type := 9, pos := "ref.go:60", after := #[], guard := none }) (v := ?pbv6) rfl (by kernel_rfl) (by kernel_rfl) (by kernel_rfl) (fun _ _ _ h => h) (Or.inl ⟨by rfl, ?pbh6⟩) (by assumption) ?pbr6
    case pbh6 => ((intro w hSw; (try dsimp only at hSw); go_simp); try with_reducible rfl)
    try simp only [Act.put, List.setIfInBounds_toArray, List.set_cons_zero, List.set_cons_succ]
    refine wpAnyH_take (i := 7) (oi := { dst := some 23, op := Op.move (Operand.tmp 0), type := 83, pos := "ref.go:60", after := #[], guard := none }) (v := ?pbv7) rfl (by kernel_rfl) (by kernel_rfl) (by kernel_rfl) (fun _ _ _ h => h) (Or.inl ⟨by rfl, ?pbh7⟩) (by assumption) ?pbr7
    case pbh7 => ((intro w hSw; (try dsimp only at hSw); go_simp); try with_reducible rfl)
    try simp only [Act.put, List.setIfInBounds_toArray, List.set_cons_zero, List.set_cons_succ]
    refine wpAnyH_take (i := 8) (oi := { dst := some 24, op := Op.nilCheck (Operand.tmp 23), type := 0, pos := "ref.go:60", after := #[{ on := 7, ground := Ground.data }], guard := none }) (v := ?pbv8) rfl (by kernel_rfl) (by kernel_rfl) (by kernel_rfl) (fun _ _ _ h => h) (Or.inl ⟨by rfl, ?pbh8⟩) (by assumption) ?pbr8
    case pbh8 => ((intro w hSw; (try dsimp only at hSw); go_simp); try with_reducible rfl)
    try simp only [Act.put, List.setIfInBounds_toArray, List.set_cons_zero, List.set_cons_succ]
    refine wpAnyH_take (i := 9) (oi := { dst := some 25, op := Op.fieldAddr 85 (Operand.tmp 24) 2, type := 0, pos := "ref.go:60", after := #[{ on := 8, ground := Ground.data }], guard := none }) (v := ?pbv9) rfl (by kernel_rfl) (by kernel_rfl) (by kernel_rfl) (fun _ _ _ h => h) (Or.inl ⟨by rfl, ?pbh9⟩) (by assumption) ?pbr9
    case pbh9 => ((intro w hSw; (try dsimp only at hSw); go_simp); try with_reducible rfl)
    try simp only [Act.put, List.setIfInBounds_toArray, List.set_cons_zero, List.set_cons_succ]
    refine wpAnyH_take (i := 10) (oi := { dst := some 26, op := Op.load 3 (Operand.tmp 25), type := 3, pos := "ref.go:60", after := #[{ on := 9, ground := Ground.data }], guard := none }) (v := ?pbv10) rfl (by kernel_rfl) (by kernel_rfl) (by kernel_rfl) (fun _ _ _ h => h) (Or.inl ⟨by rfl, ?pbh10⟩) (by assumption) ?pbr10
    case pbh10 => ((intro w hSw; (try dsimp only at hSw); go_simp); try with_reducible rfl)
    try simp only [Act.put, List.setIfInBounds_toArray, List.set_cons_zero, List.set_cons_succ]
    refine wpAnyH_take (i := 11) (oi := { dst := some 27, op := Op.move (Operand.tmp 0), type := 83, pos := "ref.go:60", after := #[], guard := none }) (v := ?pbv11) rfl (by kernel_rfl) (by kernel_rfl) (by kernel_rfl) (fun _ _ _ h => h) (Or.inl ⟨by rfl, ?pbh11⟩) (by assumption) ?pbr11
    case pbh11 => ((intro w hSw; (try dsimp only at hSw); go_simp); try with_reducible rfl)
    try simp only [Act.put, List.setIfInBounds_toArray, List.set_cons_zero, List.set_cons_succ]
    refine wpAnyH_take (i := 12) (oi := { dst := some 28, op := Op.nilCheck (Operand.tmp 27), type := 0, pos := "ref.go:60", after := #[{ on := 11, ground := Ground.data }], guard := none }) (v := ?pbv12) rfl (by kernel_rfl) (by kernel_rfl) (by kernel_rfl) (fun _ _ _ h => h) (Or.inl ⟨by rfl, ?pbh12⟩) (by assumption) ?pbr12
    case pbh12 => ((intro w hSw; (try dsimp only at hSw); go_simp); try with_reducible rfl)
    try simp only [Act.put, List.setIfInBounds_toArray, List.set_cons_zero, List.set_cons_succ]
    refine wpAnyH_take (i := 13) (oi := { dst := some 29, op := Op.fieldAddr 85 (Operand.tmp 28) 3, type := 0, pos := "ref.go:60", after := #[{ on := 12, ground := Ground.data }], guard := none }) (v := ?pbv13) rfl (by kernel_rfl) (by kernel_rfl) (by kernel_rfl) (fun _ _ _ h => h) (Or.inl ⟨by rfl, ?pbh13⟩) (by assumption) ?pbr13
    case pbh13 => ((intro w hSw; (try dsimp only at hSw); go_simp); try with_reducible rfl)
    try simp only [Act.put, List.setIfInBounds_toArray, List.set_cons_zero, List.set_cons_succ]
    refine wpAnyH_take (i := 14) (oi := { dst := some 30, op := Op.load 3 (Operand.tmp 29), type := 3, pos := "ref.go:60", after := #[{ on := 13, ground := Ground.data }], guard := none }) (v := ?pbv14) rfl (by kernel_rfl) (by kernel_rfl) (by kernel_rfl) (fun _ _ _ h => h) (Or.inl ⟨by rfl, ?pbh14⟩) (by assumption) ?pbr14
    case pbh14 => ((intro w hSw; (try dsimp only at hSw); go_simp); try with_reducible rfl)
    try simp only [Act.put, List.setIfInBounds_toArray, List.set_cons_zero, List.set_cons_succ]
    refine wpAnyH_take (i := 15) (oi := { dst := some 31, op := Op.move (Operand.tmp 8), type := 3, pos := "ref.go:60", after := #[], guard := none }) (v := ?pbv15) rfl (by kernel_rfl) (by kernel_rfl) (by kernel_rfl) (fun _ _ _ h => h) (Or.inl ⟨by rfl, ?pbh15⟩) (by assumption) ?pbr15
    case pbh15 => ((intro w hSw; (try dsimp only at hSw); go_simp); try with_reducible rfl)
    try simp only [Act.put, List.setIfInBounds_toArray, List.set_cons_zero, List.set_cons_succ]
    refine wpAnyH_take (i := 16) (oi := { dst := some 32, op := Op.move (Operand.tmp 0), type := 83, pos := "ref.go:60", after := #[], guard := none }) (v := ?pbv16) rfl (by kernel_rfl) (by kernel_rfl) (by kernel_rfl) (fun _ _ _ h => h) (Or.inl ⟨by rfl, ?pbh16⟩) (by assumption) ?pbr16
    case pbh16 => ((intro w hSw; (try dsimp only at hSw); go_simp); try with_reducible rfl)
    try simp only [Act.put, List.setIfInBounds_toArray, List.set_cons_zero, List.set_cons_succ]
    refine wpAnyH_take (i := 17) (oi := { dst := some 33, op := Op.nilCheck (Operand.tmp 32), type := 0, pos := "ref.go:60", after := #[{ on := 16, ground := Ground.data }], guard := none }) (v := ?pbv17) rfl (by kernel_rfl) (by kernel_rfl) (by kernel_rfl) (fun _ _ _ h => h) (Or.inl ⟨by rfl, ?pbh17⟩) (by assumption) ?pbr17
    case pbh17 => ((intro w hSw; (try dsimp only at hSw); go_simp); try with_reducible rfl)
    try simp only [Act.put, List.setIfInBounds_toArray, List.set_cons_zero, List.set_cons_succ]
    refine wpAnyH_take (i := 18) (oi := { dst := some 34, op := Op.fieldAddr 85 (Operand.tmp 33) 0, type := 0, pos := "ref.go:60", after := #[{ on := 17, ground := Ground.data }], guard := none }) (v := ?pbv18) rfl (by kernel_rfl) (by kernel_rfl) (by kernel_rfl) (fun _ _ _ h => h) (Or.inl ⟨by rfl, ?pbh18⟩) (by assumption) ?pbr18
    case pbh18 => ((intro w hSw; (try dsimp only at hSw); go_simp); try with_reducible rfl)
    try simp only [Act.put, List.setIfInBounds_toArray, List.set_cons_zero, List.set_cons_succ]
    refine wpAnyH_take (i := 19) (oi := { dst := some 35, op := Op.fieldAddr 32 (Operand.tmp 34) 0, type := 0, pos := "ref.go:60", after := #[{ on := 18, ground := Ground.data }], guard := none }) (v := ?pbv19) rfl (by kernel_rfl) (by kernel_rfl) (by kernel_rfl) (fun _ _ _ h => h) (Or.inl ⟨by rfl, ?pbh19⟩) (by assumption) ?pbr19
    case pbh19 => ((intro w hSw; (try dsimp only at hSw); go_simp); try with_reducible rfl)
    try simp only [Act.put, List.setIfInBounds_toArray, List.set_cons_zero, List.set_cons_succ]
    refine wpAnyH_take (i := 20) (oi := { dst := some 36, op := Op.load 28 (Operand.tmp 35), type := 28, pos := "ref.go:60", after := #[{ on := 19, ground := Ground.data }], guard := none }) (v := ?pbv20) rfl (by kernel_rfl) (by kernel_rfl) (by kernel_rfl) (fun _ _ _ h => h) (Or.inl ⟨by rfl, ?pbh20⟩) (by assumption) ?pbr20
    case pbh20 => ((intro w hSw; (try dsimp only at hSw); go_simp); try with_reducible rfl)
    try simp only [Act.put, List.setIfInBounds_toArray, List.set_cons_zero, List.set_cons_succ]
    refine wpAnyH_take (i := 21) (oi := { dst := some 37, op := Op.move (Operand.tmp 8), type := 3, pos := "ref.go:60", after := #[], guard := none }) (v := ?pbv21) rfl (by kernel_rfl) (by kernel_rfl) (by kernel_rfl) (fun _ _ _ h => h) (Or.inl ⟨by rfl, ?pbh21⟩) (by assumption) ?pbr21
    case pbh21 => ((intro w hSw; (try dsimp only at hSw); go_simp); try with_reducible rfl)
    try simp only [Act.put, List.setIfInBounds_toArray, List.set_cons_zero, List.set_cons_succ]
    refine wpAnyH_take (i := 22) (oi := { dst := some 38, op := Op.indexAddr 28 (Operand.tmp 36) (Operand.tmp 37), type := 0, pos := "ref.go:60", after := #[{ on := 20, ground := Ground.data }, { on := 21, ground := Ground.data }], guard := none }) (v := ?pbv22) rfl (by kernel_rfl) (by kernel_rfl) (by kernel_rfl) (fun _ _ _ h => h) (Or.inl ⟨by rfl, ?pbh22⟩) (by assumption) ?pbr22
    case pbh22 => ((intro w hSw; (try dsimp only at hSw); go_simp); try with_reducible rfl)
    try simp only [Act.put, List.setIfInBounds_toArray, List.set_cons_zero, List.set_cons_succ]
    refine wpAnyH_take (i := 23) (oi := { dst := some 39, op := Op.fieldAddr 50 (Operand.tmp 38) 3, type := 0, pos := "ref.go:60", after := #[{ on := 22, ground := Ground.data }], guard := none }) (v := ?pbv23) rfl (by kernel_rfl) (by kernel_rfl) (by kernel_rfl) (fun _ _ _ h => h) (Or.inl ⟨by rfl, ?pbh23⟩) (by assumption) ?pbr23
    case pbh23 => ((intro w hSw; (try dsimp only at hSw); go_simp); try with_reducible rfl)
    try simp only [Act.put, List.setIfInBounds_toArray, List.set_cons_zero, List.set_cons_succ]
    refine wpAnyH_take (i := 24) (oi := { dst := some 40, op := Op.load 48 (Operand.tmp 39), type := 48, pos := "ref.go:60", after := #[{ on := 23, ground := Ground.data }], guard := none }) (v := ?pbv24) rfl (by kernel_rfl) (by kernel_rfl) (by kernel_rfl) (fun _ _ _ h => h) (Or.inl ⟨by rfl, ?pbh24⟩) (by assumption) ?pbr24
    case pbh24 => ((intro w hSw; (try dsimp only at hSw); go_simp); try with_reducible rfl)
    try simp only [Act.put, List.setIfInBounds_toArray, List.set_cons_zero, List.set_cons_succ]
    refine wpAnyH_take (i := 25) (oi := { dst := some 41, op := Op.call { callee := Callee.builtin Builtin.len, args := #[Operand.tmp 40], argTypes := #[48] }, type := 3, pos := "ref.go:60", after := #[{ on := 24, ground := Ground.data }], guard := none }) (v := ?pbv25) rfl (by kernel_rfl) (by kernel_rfl) (by kernel_rfl) (fun _ _ _ h => h) (Or.inl ⟨by rfl, ?pbh25⟩) (by assumption) ?pbr25
    case pbh25 => ((intro w hSw; (try dsimp only at hSw); go_simp); try with_reducible rfl)
    try simp only [Act.put, List.setIfInBounds_toArray, List.set_cons_zero, List.set_cons_succ]
    refine wpAnyH_take (i := 26) (oi := { dst := some 42, op := Op.move (Operand.tmp 2), type := 4, pos := "ref.go:60", after := #[], guard := none }) (v := ?pbv26) rfl (by kernel_rfl) (by kernel_rfl) (by kernel_rfl) (fun _ _ _ h => h) (Or.inl ⟨by rfl, ?pbh26⟩) (by assumption) ?pbr26
    case pbh26 => ((intro w hSw; (try dsimp only at hSw); go_simp); try with_reducible rfl)
    try simp only [Act.put, List.setIfInBounds_toArray, List.set_cons_zero, List.set_cons_succ]
    refine wpAnyH_take (i := 27) (oi := { dst := some 43, op := Op.load 62 (Operand.tmp 7), type := 62, pos := "ref.go:60", after := #[], guard := none }) (v := ?pbv27) rfl (by kernel_rfl) (by kernel_rfl) (by kernel_rfl) (fun _ _ _ h => h) (Or.inl ⟨by rfl, ?pbh27⟩) (by assumption) ?pbr27
    case pbh27 => ((intro w hSw; (try dsimp only at hSw); go_simp); try with_reducible rfl)
    try simp only [Act.put, List.setIfInBounds_toArray, List.set_cons_zero, List.set_cons_succ]
    refine wpAnyH_take (i := 28) (oi := { dst := some 44, op := Op.build 81 #[(0, Operand.tmp 22), (1, Operand.tmp 26), (2, Operand.tmp 30), (3, Operand.tmp 31), (4, Operand.tmp 41), (5, Operand.tmp 42), (6, Operand.tmp 43)], type := 81, pos := "ref.go:60", after := #[{ on := 6, ground := Ground.data }, { on := 10, ground := Ground.data }, { on := 14, ground := Ground.data }, { on := 15, ground := Ground.data }, { on := 25, ground := Ground.data }, { on := 26, ground := Ground.data }, { on := 27, ground := Ground.data }], guard := none }) (v := ?pbv28) rfl (by kernel_rfl) (by kernel_rfl) (by kernel_rfl) (fun _ _ _ h => h) (Or.inl ⟨by rfl, ?pbh28⟩) (by assumption) ?pbr28
    case pbh28 => ((intro w hSw; (try dsimp only at hSw); go_simp); try with_reducible rfl)
    try simp only [Act.put, List.setIfInBounds_toArray, List.set_cons_zero, List.set_cons_succ]
    refine wpAnyH_ready (rs := [5, 29]) (by kernel_rfl) (by simp) ?_
    refine AllReadyH.cons (o := { dst := some 21, op := Op.load 29 (Operand.tmp 20), type := 29, pos := "ref.go:60", after := #[{ on := 4, ground := Ground.data }], guard := none }) rfl (fun K hK => ?_) ?_
    · go_simp; refine hK.out _ _ (by first | exact HH0.out | exact HSL.out _) (fun hHeld => ?_)
      clear hK K
      try simp only [Act.put, List.setIfInBounds_toArray, List.set_cons_zero, List.set_cons_succ]
      refine wpAnyH_ready (rs := [29]) (by kernel_rfl) (by simp) ?_
      refine AllReadyH.cons (o := { dst := some 45, op := Op.buildSlice 29 1 #[(0, Operand.tmp 44)], type := 29, pos := "ref.go:60", after := #[{ on := 28, ground := Ground.data }], guard := none }) rfl (fun K hK => ?_) AllReadyH.nil
      go_simp; refine hK.out _ _ (HSL.out _) (fun hHeld => ?_)
      clear hK K
      try simp only [Act.put, List.setIfInBounds_toArray, List.set_cons_zero, List.set_cons_succ]
      refine wpAnyH_ready (rs := [30]) (by kernel_rfl) (by simp) ?_
      refine AllReadyH.cons (o := { dst := some 46, op := Op.call { callee := Callee.builtin Builtin.append, args := #[Operand.tmp 21, Operand.tmp 45], argTypes := #[29, 29] }, type := 29, pos := "ref.go:60", after := #[{ on := 5, ground := Ground.data }, { on := 29, ground := Ground.data }], guard := none }) rfl (fun K hK => ?_) AllReadyH.nil
      (refine step_app EMark rfl (.tmp 21) (.tmp 45) rfl base (.slice pm ml cm) ml (X3.ms.flatMap Mk.cells) rfl (HP7.out.alloc _) _ 1 1 (Mk.cells ⟨nm, file, line, (i : Nat), (len : Nat), equ, v⟩) rfl rfl (row_newAt _ _ _ _ rfl) (mk_ones _) (by unfold maxLen; omega) (by omega) (by simp; omega) ?_); intro vp' w8 ho8 hg8 hs8; obtain ⟨p8, c8, rfl, -⟩ := own_shape ho8; have HO8 := hid ho8; have HG8 := hid hg8; clear ho8 hg8 hs8; obtain ⟨hh8, hm8⟩ := HK8.out _ _ HG8.out; have HH8 := hid hh8; have z8 := cell_of_row _ _ 1 _ _ _ hm8; have zf8 := frozen_of_row _ _ 1 _ _ hm8; clear hh8 hm8; refine hK.out _ _ HH8.out (fun hHeld => ?_)
      clear hK K
      try simp only [Act.put, List.setIfInBounds_toArray, List.set_cons_zero, List.set_cons_succ]
      refine wpAnyH_take (i := 31) (oi := { dst := some 47, op := Op.nilCheck (Operand.tmp 16), type := 0, pos := "ref.go:60", after := #[{ on := 0, ground := Ground.data }, { on := 0, ground := Ground.phase }, { on := 1, ground := Ground.phase }, { on := 2, ground := Ground.phase }, { on := 3, ground := Ground.phase }, { on := 4, ground := Ground.phase }, { on := 5, ground := Ground.phase }, { on := 6, ground := Ground.phase }, { on := 7, ground := Ground.phase }, { on := 8, ground := Ground.phase }, { on := 9, ground := Ground.phase }, { on := 10, ground := Ground.phase }, { on := 11, ground := Ground.phase }, { on := 12, ground := Ground.phase }, { on := 13, ground := Ground.phase }, { on := 14, ground := Ground.phase }, { on := 15, ground := Ground.phase }, { on := 16, ground := Ground.phase }, { on := 17, ground := Ground.phase }, { on := 18, ground := Ground.phase }, { on := 19, ground := Ground.phase }, { on := 20, ground := Ground.phase }, { on := 21, ground := Ground.phase }, { on := 22, ground := Ground.phase }, { on := 23, ground := Ground.phase }, { on := 24, ground := Ground.phase }, { on := 25, ground := Ground.phase }, { on := 26, ground := Ground.phase }, { on := 27, ground := Ground.phase }, { on := 28, ground := Ground.phase }, { on := 29, ground := Ground.phase }, { on := 30, ground := Ground.phase }], guard := none }) (v := ?pbav31) rfl (by kernel_rfl) (by kernel_rfl) (by kernel_rfl) (fun _ _ _ h => h) (Or.inl ⟨by rfl, ?pbah31⟩) (by assumption) ?pbar31
      case pbah31 => ((intro w hSw; (try dsimp only at hSw); go_simp); try with_reducible rfl)
      try simp only [Act.put, List.setIfInBounds_toArray, List.set_cons_zero, List.set_cons_succ]
      refine wpAnyH_take (i := 32) (oi := { dst := some 48, op := Op.fieldAddr 85 (Operand.tmp 47) 0, type := 0, pos := "ref.go:60", after := #[{ on := 31, ground := Ground.data }, { on := 0, ground := Ground.phase }, { on := 1, ground := Ground.phase }, { on := 2, ground := Ground.phase }, { on := 3, ground := Ground.phase }, { on := 4, ground := Ground.phase }, { on := 5, ground := Ground.phase }, { on := 6, ground := Ground.phase }, { on := 7, ground := Ground.phase }, { on := 8, ground := Ground.phase }, { on := 9, ground := Ground.phase }, { on := 10, ground := Ground.phase }, { on := 11, ground := Ground.phase }, { on := 12, ground := Ground.phase }, { on := 13, ground := Ground.phase }, { on := 14, ground := Ground.phase }, { on := 15, ground := Ground.phase }, { on := 16, ground := Ground.phase }, { on := 17, ground := Ground.phase }, { on := 18, ground := Ground.phase }, { on := 19, ground := Ground.phase }, { on := 20, ground := Ground.phase }, { on := 21, ground := Ground.phase }, { on := 22, ground := Ground.phase }, { on := 23, ground := Ground.phase }, { on := 24, ground := Ground.phase }, { on := 25, ground := Ground.phase }, { on := 26, ground := Ground.phase }, { on := 27, ground := Ground.phase }, { on := 28, ground := Ground.phase }, { on := 29, ground := Ground.phase }, { on := 30, ground := Ground.phase }], guard := none }) (v := ?pbav32) rfl (by kernel_rfl) (by kernel_rfl) (by kernel_rfl) (fun _ _ _ h => h) (Or.inl ⟨by rfl, ?pbah32⟩) (by assumption) ?pbar32
      case pbah32 => ((intro w hSw; (try dsimp only at hSw); go_simp); try with_reducible rfl)
      try simp only [Act.put, List.setIfInBounds_toArray, List.set_cons_zero, List.set_cons_succ]
      refine wpAnyH_take (i := 33) (oi := { dst := some 49, op := Op.fieldAddr 32 (Operand.tmp 48) 1, type := 0, pos := "ref.go:60", after := #[{ on := 32, ground := Ground.data }, { on := 0, ground := Ground.phase }, { on := 1, ground := Ground.phase }, { on := 2, ground := Ground.phase }, { on := 3, ground := Ground.phase }, { on := 4, ground := Ground.phase }, { on := 5, ground := Ground.phase }, { on := 6, ground := Ground.phase }, { on := 7, ground := Ground.phase }, { on := 8, ground := Ground.phase }, { on := 9, ground := Ground.phase }, { on := 10, ground := Ground.phase }, { on := 11, ground := Ground.phase }, { on := 12, ground := Ground.phase }, { on := 13, ground := Ground.phase }, { on := 14, ground := Ground.phase }, { on := 15, ground := Ground.phase }, { on := 16, ground := Ground.phase }, { on := 17, ground := Ground.phase }, { on := 18, ground := Ground.phase }, { on := 19, ground := Ground.phase }, { on := 20, ground := Ground.phase }, { on := 21, ground := Ground.phase }, { on := 22, ground := Ground.phase }, { on := 23, ground := Ground.phase }, { on := 24, ground := Ground.phase }, { on := 25, ground := Ground.phase }, { on := 26, ground := Ground.phase }, { on := 27, ground := Ground.phase }, { on := 28, ground := Ground.phase }, { on := 29, ground := Ground.phase }, { on := 30, ground := Ground.phase }], guard := none }) (v := ?pbav33) rfl (by kernel_rfl) (by kernel_rfl) (by kernel_rfl) (fun _ _ _ h => h) (Or.inl ⟨by rfl, ?pbah33⟩) (by assumption) ?pbar33
      case pbah33 => ((intro w hSw; (try dsimp only at hSw); go_simp); try with_reducible rfl)
      try simp only [Act.put, List.setIfInBounds_toArray, List.set_cons_zero, List.set_cons_succ]
      refine wpAnyH_ready (rs := [34]) (by kernel_rfl) (by simp) ?_
      refine AllReadyH.cons (o := { dst := none, op := Op.store 29 (Operand.tmp 49) (Operand.tmp 46), type := 0, pos := "ref.go:60", after := #[{ on := 33, ground := Ground.data }, { on := 30, ground := Ground.data }, { on := 30, ground := Ground.chain }, { on := 0, ground := Ground.phase }, { on := 1, ground := Ground.phase }, { on := 2, ground := Ground.phase }, { on := 3, ground := Ground.phase }, { on := 4, ground := Ground.phase }, { on := 5, ground := Ground.phase }, { on := 6, ground := Ground.phase }, { on := 7, ground := Ground.phase }, { on := 8, ground := Ground.phase }, { on := 9, ground := Ground.phase }, { on := 10, ground := Ground.phase }, { on := 11, ground := Ground.phase }, { on := 12, ground := Ground.phase }, { on := 13, ground := Ground.phase }, { on := 14, ground := Ground.phase }, { on := 15, ground := Ground.phase }, { on := 16, ground := Ground.phase }, { on := 17, ground := Ground.phase }, { on := 18, ground := Ground.phase }, { on := 19, ground := Ground.phase }, { on := 20, ground := Ground.phase }, { on := 21, ground := Ground.phase }, { on := 22, ground := Ground.phase }, { on := 23, ground := Ground.phase }, { on := 24, ground := Ground.phase }, { on := 25, ground := Ground.phase }, { on := 26, ground := Ground.phase }, { on := 27, ground := Ground.phase }, { on := 28, ground := Ground.phase }, { on := 29, ground := Ground.phase }, { on := 30, ground := Ground.phase }], guard := none }) rfl (fun K hK => ?_) AllReadyH.nil
      go_simp; refine hK.out _ _ (HBS.out _ _ HH8.out) (fun hHeld => ?_)
      clear hK K
      try simp only [Act.put, List.setIfInBounds_toArray, List.set_cons_zero, List.set_cons_succ]
      refine wpAnyH_done (by kernel_rfl) ?_ _
      go_wp2_with fail
      go_end0
      exact HFIN.out _ _ _ HO8.out HG8.out
    refine AllReadyH.cons (o := { dst := some 45, op := Op.buildSlice 29 1 #[(0, Operand.tmp 44)], type := 29, pos := "ref.go:60", after := #[{ on := 28, ground := Ground.data }], guard := none }) rfl (fun K hK => ?_) AllReadyH.nil
    go_simp; refine hK.out _ _ (HSL.out _) (fun hHeld => ?_)
    clear hK K
    try simp only [Act.put, List.setIfInBounds_toArray, List.set_cons_zero, List.set_cons_succ]
    refine wpAnyH_ready (rs := [5]) (by kernel_rfl) (by simp) ?_
    refine AllReadyH.cons (o := { dst := some 21, op := Op.load 29 (Operand.tmp 20), type := 29, pos := "ref.go:60", after := #[{ on := 4, ground := Ground.data }], guard := none }) rfl (fun K hK => ?_) AllReadyH.nil
    go_simp; refine hK.out _ _ (by first | exact HH0.out | exact HSL.out _) (fun hHeld => ?_)
    clear hK K
    try simp only [Act.put, List.setIfInBounds_toArray, List.set_cons_zero, List.set_cons_succ]
    refine wpAnyH_ready (rs := [30]) (by kernel_rfl) (by simp) ?_
    refine AllReadyH.cons (o := { dst := some 46, op := Op.call { callee := Callee.builtin Builtin.append, args := #[Operand.tmp 21, Operand.tmp 45], argTypes := #[29, 29] }, type := 29, pos := "ref.go:60", after := #[{ on := 5, ground := Ground.data }, { on := 29, ground := Ground.data }], guard := none }) rfl (fun K hK => ?_) AllReadyH.nil
    (refine step_app EMark rfl (.tmp 21) (.tmp 45) rfl base (.slice pm ml cm) ml (X3.ms.flatMap Mk.cells) rfl (HP7.out.alloc _) _ 1 1 (Mk.cells ⟨nm, file, line, (i : Nat), (len : Nat), equ, v⟩) rfl rfl (row_newAt _ _ _ _ rfl) (mk_ones _) (by unfold maxLen; omega) (by omega) (by simp; omega) ?_); intro vp' w8 ho8 hg8 hs8; obtain ⟨p8, c8, rfl, -⟩ := own_shape ho8; have HO8 := hid ho8; have HG8 := hid hg8; clear ho8 hg8 hs8; obtain ⟨hh8, hm8⟩ := HK8.out _ _ HG8.out; have HH8 := hid hh8; have z8 := cell_of_row _ _ 1 _ _ _ hm8; have zf8 := frozen_of_row _ _ 1 _ _ hm8; clear hh8 hm8; refine hK.out _ _ HH8.out (fun hHeld => ?_)
    clear hK K
    try simp only [Act.put, List.setIfInBounds_toArray, List.set_cons_zero, List.set_cons_succ]
    refine wpAnyH_take (i := 31) (oi := { dst := some 47, op := Op.nilCheck (Operand.tmp 16), type := 0, pos := "ref.go:60", after := #[{ on := 0, ground := Ground.data }, { on := 0, ground := Ground.phase }, { on := 1, ground := Ground.phase }, { on := 2, ground := Ground.phase }, { on := 3, ground := Ground.phase }, { on := 4, ground := Ground.phase }, { on := 5, ground := Ground.phase }, { on := 6, ground := Ground.phase }, { on := 7, ground := Ground.phase }, { on := 8, ground := Ground.phase }, { on := 9, ground := Ground.phase }, { on := 10, ground := Ground.phase }, { on := 11, ground := Ground.phase }, { on := 12, ground := Ground.phase }, { on := 13, ground := Ground.phase }, { on := 14, ground := Ground.phase }, { on := 15, ground := Ground.phase }, { on := 16, ground := Ground.phase }, { on := 17, ground := Ground.phase }, { on := 18, ground := Ground.phase }, { on := 19, ground := Ground.phase }, { on := 20, ground := Ground.phase }, { on := 21, ground := Ground.phase }, { on := 22, ground := Ground.phase }, { on := 23, ground := Ground.phase }, { on := 24, ground := Ground.phase }, { on := 25, ground := Ground.phase }, { on := 26, ground := Ground.phase }, { on := 27, ground := Ground.phase }, { on := 28, ground := Ground.phase }, { on := 29, ground := Ground.phase }, { on := 30, ground := Ground.phase }], guard := none }) (v := ?pbbv31) rfl (by kernel_rfl) (by kernel_rfl) (by kernel_rfl) (fun _ _ _ h => h) (Or.inl ⟨by rfl, ?pbbh31⟩) (by assumption) ?pbbr31
    case pbbh31 => ((intro w hSw; (try dsimp only at hSw); go_simp); try with_reducible rfl)
    try simp only [Act.put, List.setIfInBounds_toArray, List.set_cons_zero, List.set_cons_succ]
    refine wpAnyH_take (i := 32) (oi := { dst := some 48, op := Op.fieldAddr 85 (Operand.tmp 47) 0, type := 0, pos := "ref.go:60", after := #[{ on := 31, ground := Ground.data }, { on := 0, ground := Ground.phase }, { on := 1, ground := Ground.phase }, { on := 2, ground := Ground.phase }, { on := 3, ground := Ground.phase }, { on := 4, ground := Ground.phase }, { on := 5, ground := Ground.phase }, { on := 6, ground := Ground.phase }, { on := 7, ground := Ground.phase }, { on := 8, ground := Ground.phase }, { on := 9, ground := Ground.phase }, { on := 10, ground := Ground.phase }, { on := 11, ground := Ground.phase }, { on := 12, ground := Ground.phase }, { on := 13, ground := Ground.phase }, { on := 14, ground := Ground.phase }, { on := 15, ground := Ground.phase }, { on := 16, ground := Ground.phase }, { on := 17, ground := Ground.phase }, { on := 18, ground := Ground.phase }, { on := 19, ground := Ground.phase }, { on := 20, ground := Ground.phase }, { on := 21, ground := Ground.phase }, { on := 22, ground := Ground.phase }, { on := 23, ground := Ground.phase }, { on := 24, ground := Ground.phase }, { on := 25, ground := Ground.phase }, { on := 26, ground := Ground.phase }, { on := 27, ground := Ground.phase }, { on := 28, ground := Ground.phase }, { on := 29, ground := Ground.phase }, { on := 30, ground := Ground.phase }], guard := none }) (v := ?pbbv32) rfl (by kernel_rfl) (by kernel_rfl) (by kernel_rfl) (fun _ _ _ h => h) (Or.inl ⟨by rfl, ?pbbh32⟩) (by assumption) ?pbbr32
    case pbbh32 => ((intro w hSw; (try dsimp only at hSw); go_simp); try with_reducible rfl)
    try simp only [Act.put, List.setIfInBounds_toArray, List.set_cons_zero, List.set_cons_succ]
    refine wpAnyH_take (i := 33) (oi := { dst := some 49, op := Op.fieldAddr 32 (Operand.tmp 48) 1, type := 0, pos := "ref.go:60", after := #[{ on := 32, ground := Ground.data }, { on := 0, ground := Ground.phase }, { on := 1, ground := Ground.phase }, { on := 2, ground := Ground.phase }, { on := 3, ground := Ground.phase }, { on := 4, ground := Ground.phase }, { on := 5, ground := Ground.phase }, { on := 6, ground := Ground.phase }, { on := 7, ground := Ground.phase }, { on := 8, ground := Ground.phase }, { on := 9, ground := Ground.phase }, { on := 10, ground := Ground.phase }, { on := 11, ground := Ground.phase }, { on := 12, ground := Ground.phase }, { on := 13, ground := Ground.phase }, { on := 14, ground := Ground.phase }, { on := 15, ground := Ground.phase }, { on := 16, ground := Ground.phase }, { on := 17, ground := Ground.phase }, { on := 18, ground := Ground.phase }, { on := 19, ground := Ground.phase }, { on := 20, ground := Ground.phase }, { on := 21, ground := Ground.phase }, { on := 22, ground := Ground.phase }, { on := 23, ground := Ground.phase }, { on := 24, ground := Ground.phase }, { on := 25, ground := Ground.phase }, { on := 26, ground := Ground.phase }, { on := 27, ground := Ground.phase }, { on := 28, ground := Ground.phase }, { on := 29, ground := Ground.phase }, { on := 30, ground := Ground.phase }], guard := none }) (v := ?pbbv33) rfl (by kernel_rfl) (by kernel_rfl) (by kernel_rfl) (fun _ _ _ h => h) (Or.inl ⟨by rfl, ?pbbh33⟩) (by assumption) ?pbbr33
    case pbbh33 => ((intro w hSw; (try dsimp only at hSw); go_simp); try with_reducible rfl)
    try simp only [Act.put, List.setIfInBounds_toArray, List.set_cons_zero, List.set_cons_succ]
    refine wpAnyH_ready (rs := [34]) (by kernel_rfl) (by simp) ?_
    refine AllReadyH.cons (o := { dst := none, op := Op.store 29 (Operand.tmp 49) (Operand.tmp 46), type := 0, pos := "ref.go:60", after := #[{ on := 33, ground := Ground.data }, { on := 30, ground := Ground.data }, { on := 30, ground := Ground.chain }, { on := 0, ground := Ground.phase }, { on := 1, ground := Ground.phase }, { on := 2, ground := Ground.phase }, { on := 3, ground := Ground.phase }, { on := 4, ground := Ground.phase }, { on := 5, ground := Ground.phase }, { on := 6, ground := Ground.phase }, { on := 7, ground := Ground.phase }, { on := 8, ground := Ground.phase }, { on := 9, ground := Ground.phase }, { on := 10, ground := Ground.phase }, { on := 11, ground := Ground.phase }, { on := 12, ground := Ground.phase }, { on := 13, ground := Ground.phase }, { on := 14, ground := Ground.phase }, { on := 15, ground := Ground.phase }, { on := 16, ground := Ground.phase }, { on := 17, ground := Ground.phase }, { on := 18, ground := Ground.phase }, { on := 19, ground := Ground.phase }, { on := 20, ground := Ground.phase }, { on := 21, ground := Ground.phase }, { on := 22, ground := Ground.phase }, { on := 23, ground := Ground.phase }, { on := 24, ground := Ground.phase }, { on := 25, ground := Ground.phase }, { on := 26, ground := Ground.phase }, { on := 27, ground := Ground.phase }, { on := 28, ground := Ground.phase }, { on := 29, ground := Ground.phase }, { on := 30, ground := Ground.phase }], guard := none }) rfl (fun K hK => ?_) AllReadyH.nil
    go_simp; refine hK.out _ _ (HBS.out _ _ HH8.out) (fun hHeld => ?_)
    clear hK K
    try simp only [Act.put, List.setIfInBounds_toArray, List.set_cons_zero, List.set_cons_succ]
    refine wpAnyH_done (by kernel_rfl) ?_ _
    go_wp2_with fail
    go_end0
    exact HFIN.out _ _ _ HO8.out HG8.out
end Go.Proofs.Ythlingholhjcnaa
