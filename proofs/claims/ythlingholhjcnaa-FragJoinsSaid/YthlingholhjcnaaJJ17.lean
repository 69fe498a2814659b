/-
 The document's add: the walk.
-/
import Derived.Test.YthlingholhjcnaaJJ16
namespace Go.Proofs.Ythlingholhjcnaa
open Go.RowKit
variable {W w0 w w' : World} {u : UnR} {X : FV}
set_option maxRecDepth 40000 in
set_option maxHeartbeats 8000000 in
theorem add_any (X : FV) (n : Nat) (u : UnR) (h : FIs w0 W.heap.size X) (hz : W.heap.size ≤ w0.heap.size) (hb : Below W.heap.size W w0) (hfv : X.fv = .slice none 0 0) (hfs : X.fs = []) (hsm : Sm X n) (hin : UnIn W u) (hcost : n + u.cost ≤ 2000000) :
  Calls Try.prog 32 #[.agg #[X.pv, X.mv, X.gv], .agg #[.slice u.parts.p u.parts.l.length u.parts.c, .slice u.marks.p u.marks.l.length u.marks.c, .slice u.globals.p u.globals.l.length u.globals.c]] w0 (AddT W w0 (X.pl.joinUnit u.pl) (n + u.cost)) := by
 obtain ⟨p0, c0, hpv, -⟩ := own_shape h.parts
 obtain ⟨p1, c1, hmv, -⟩ := own_shape h.marks
 obtain ⟨p2, c2, hgv, -⟩ := own_shape h.globals
 obtain ⟨W3, hW3⟩ : ∃ W3, W3 = ((w0.alloc (.cells #[.slice p0 X.ps.length c0, .slice p1 X.ms.length c1, .slice p2 X.gs.length c2] 32)).alloc (.cells #[.slice u.parts.p u.parts.l.length u.parts.c, .slice u.marks.p u.marks.l.length u.marks.c, .slice u.globals.p u.globals.l.length u.globals.c] 32)).alloc (.cells #[.slice none 0 0, .slice none 0 0, .slice none 0 0] 32) := ⟨_, rfl⟩
 have h3 : RI W w0 u X W3 := RI.start (nv := .slice none 0 0) h hz hb hfv hfs (by rw [hpv, hmv, hgv]; exact hW3)
 have HW3 := hid hW3
 have H3 := hid h3
 have HUI := hid hin
 have HC := hid hcost
 have HSM := hid hsm
 have HFS := hid hfs
 rw [hpv, hmv, hgv]
 obtain ⟨NP, hNP⟩ : ∃ NP, NP = u.parts.l.length := ⟨_, rfl⟩
 have HNP := hid hNP
 have hnp : NP ≤ 2000000 := by
  have h2 : u.cost = ptCost u.parts.l + u.marks.l.length + u.globals.l.length := rfl
  have h3 := ptCost_ge u.parts.l
  omega
 have HPJ0 : Hid (PJR W w0 X.pl n u 0 (.slice none 0 0) (.slice none 0 0) X [] [] W3) := ⟨h3, rfl, hsm.mono2 (Nat.le_add_right _ _), AX.nil _ _⟩
 clear h hb hfv hfs hsm hin hcost hpv hmv hgv hW3 h3 hNP
 go_enter Try.func32, Try.ntmps32
 go_upto_region 1 with (fail)
 rw [← HW3.out]
 go_wp2_with (fail)
 go_loopw [5, 6, 7] (fun pv fv i wy => ∃ (j : Nat), j ≤ NP ∧ i = .int .i64 j ∧ ∃ (X' : FV) (PL FL : List Nat), PJR W w0 X.pl n u j pv fv X' PL FL wy) (fun _ _ i _ => NP - (intOf i).toNat)
 case atStart => exact ⟨0, Nat.zero_le _, rfl, X, [], [], HPJ0.out⟩
 case round =>
  rename World => wy
  obtain ⟨j, hj, rfl, X1, PL, FL, h1⟩ := hrel
  have H1 := hid h1
  have v0 := cell_of_row _ _ 0 _ _ _ h1.ri.mb
  simp only [UnR.cells, Sl.val, List.getElem?_toArray, List.getElem?_cons_zero, List.getElem?_cons_succ] at v0
  rw [← HNP.out] at v0
  clear HPJ0 H3
  by_cases hjl : j < NP
  ·have hjI : (j : Int) < NP := by omega
   have hjl2 : j < u.parts.l.length := by rw [← HNP.out]; exact hjl
   have hpr := HUI.out.pr.below h1.ri.b
   obtain ⟨pb0, po, hpe, -, -⟩ := hpr.at (by rw [flat_len PtR.cells 4 (fun _ => rfl)]; omega)
   rw [hpe] at hpr v0
   obtain ⟨q0, q1, q2, q3⟩ := pt_ex hpr j hjl2
   have HPT := hid (HUI.out.pts _ (List.getElem_mem hjl2))
   have HPC := hid (ptCost_take u.parts.l j hjl2)
   have HPL := hid (ptCost_le u.parts.l (j + 1))
   have HSJ : Hid (joinParts (X.pl, [], []) ((u.parts.l.take (j + 1)).map PtR.pl) = jpStep (joinParts (X.pl, [], []) ((u.parts.l.take j).map PtR.pl)) u.parts.l[j].pl) := by
    unfold Hid joinParts
    rw [List.take_add_one, List.getElem?_eq_getElem hjl2, Option.toList_some, List.map_append, List.foldl_append]; rfl
   generalize u.parts.l[j] = y at *
   obtain ⟨W6, hW6⟩ : ∃ W6, W6 = wy.alloc (.cells #[.string y.name, .int .i64 y.file, .int .i64 y.line, .slice y.pieces.p y.pieces.l.length y.pieces.c] 50) := ⟨_, rfl⟩
   have HW6 := hid hW6
   have hb6 : Below wy.heap.size wy W6 := by rw [hW6]; exact alloc_below _ _
   have HX6 : Hid (W6.heap[wy.heap.size]? = some (.cells y.cells.toArray 50 (0, 0))) := by rw [hW6]; exact heap_alloc_new _ _
   have h6 := h1.ri.below hb6
   have H6 := hid h6
   have hzy := h1.ri.jb.hz
   have HT6 := hid (TrJ.below (P := isPJ) (ob := w0.heap.size) hb6 hzy)
   have HB6 := hid hb6
   obtain ⟨pp, cp, hpv, hprow⟩ := own_shape h6.jb.is.parts
   have hob := h6.jb.head
   rw [hpv] at hob
   have ob0 := cell_of_row _ _ 0 _ _ _ hob
   simp only [List.getElem?_toArray, List.getElem?_cons_zero, List.getElem?_cons_succ] at ob0
   have HPV := hid hpv
   have hxl : X1.ps.length ≤ 2000000 := by
    have h1 := H1.out.sm.ps; have h2 := HC.out; have h3 := ptCost_le u.parts.l j
    have h4 : u.cost = ptCost u.parts.l + u.marks.l.length + u.globals.l.length := rfl
    omega
   have HNM := hid (named_any pp cp X1.ps y.name W6 hprow (by omega))
   obtain ⟨d0, d1, d2, d3⟩ : W6.cell? ⟨wy.heap.size, 0, none⟩ = some (.string y.name) ∧ W6.cell? ⟨wy.heap.size, 1, none⟩ = some (.int .i64 y.file) ∧ W6.cell? ⟨wy.heap.size, 2, none⟩ = some (.int .i64 y.line) ∧ W6.cell? ⟨wy.heap.size, 3, none⟩ = some (.slice y.pieces.p y.pieces.l.length y.pieces.c) :=
    ⟨cell_of_row _ _ 0 _ _ _ HX6.out, cell_of_row _ _ 1 _ _ _ HX6.out, cell_of_row _ _ 2 _ _ _ HX6.out, cell_of_row _ _ 3 _ _ _ HX6.out⟩
   have hobl : w0.heap.size < wy.heap.size := h1.ri.jb.lt
   clear h1 hpr hpe hb6 hW6 h6 hpv hprow hob
   go_upto_region 6 with (fail)
   rw [← HW6.out]
   clear q0 q1 q2 q3 v0
   obtain ⟨nm, hnm⟩ : ∃ nm, nm = namedI X1.ps y.name := ⟨_, rfl⟩
   have HNMV := hid hnm
   rw [← hnm] at HNM
   clear hnm
   obtain ⟨B, hBD⟩ : ∃ B, decide (nm < 0) = B := ⟨_, rfl⟩
   have HBB := hid hBD
   go_upto_if 30 with (go_at_call 50; (with_reducible refine HNM.out.mono ?_); rintro e w2 ⟨rfl, hw2⟩; rw [hw2]; clear hw2)
   clear hBD
   go_cut [9] from 31 to 45 (fun nv wx => ∃ (i : Nat) (X2 : FV), nv = .int .i64 i ∧ PartP X1 X2 y.file y.line y.name i ∧ RI W w0 u X2 wx ∧ TrJ isPJ W.heap.size w0.heap.size wy wx ∧ wx.heap[wy.heap.size]? = some (.cells y.cells.toArray 50 (0, 0)))
   case first =>
    obtain ⟨r, hr⟩ : ∃ r, r = idxO (X1.ps.map PtR.name) y.name := ⟨_, rfl⟩
    have HR := hid hr
    have hv := HNMV.out
    unfold namedI at hv
    rw [← hr] at hv
    clear hr
    cases r with
    | some i =>
     have d5 : B = false := by rw [← HBB.out, hv]; simp
     subst d5
     have HV : Hid (nm = (i : Nat)) := hv
     clear hv
     go_wp2_with (fail)
     go_meet
     exact ⟨i, X1, by rw [HV.out], ⟨rfl, rfl, rfl, rfl, rfl, rfl, .inl ⟨rfl, HR.out.symm⟩⟩, H6.out, HT6.out, HX6.out⟩
    | none =>
     have d5 : B = true := by rw [← HBB.out, hv]; rfl
     subst d5
     clear hv
     have hmz : w0.heap.size < W6.heap.size := Nat.lt_of_lt_of_le hobl HB6.out.size
     have hbz : W.heap.size ≤ W6.heap.size := Nat.le_trans H1.out.ri.jb.hz HB6.out.size
     have hyz : wy.heap.size < W6.heap.size := (Array.getElem?_eq_some_iff.1 HX6.out).1
     have HPO : Hid (W6.ownsRow W.heap.size 50 4 (.slice pp X1.ps.length cp) X1.ps.length (X1.ps.flatMap PtR.cells)) := by have := H6.out.jb.is.parts; rw [HPV.out] at this; exact this
     have HFIN : Hid (∀ (o : Obj) (w8 : World) (v' : Value), (W6.alloc o).grownBy w8 (Value.slice pp X1.ps.length cp).ownBlock → w8.ownsRow W.heap.size 50 4 v' (X1.ps.length + 1) (X1.ps.flatMap PtR.cells ++ PtR.cells ⟨y.name, y.file, y.line, ⟨none, 0, []⟩⟩) →
       (RI W w0 u { X1 with pv := v', ps := X1.ps ++ [⟨y.name, y.file, y.line, ⟨none, 0, []⟩⟩] } (w8.setCell ⟨w0.heap.size, 0, none⟩ v') ∧ TrJ isPJ W.heap.size w0.heap.size wy (w8.setCell ⟨w0.heap.size, 0, none⟩ v') ∧ (w8.setCell ⟨w0.heap.size, 0, none⟩ v').heap[wy.heap.size]? = some (.cells y.cells.toArray 50 (0, 0))) ∧ w8.heap[w0.heap.size]? = some (.cells #[.slice pp X1.ps.length cp, X1.mv, X1.gv] 32 (0, 0))) := fun o w8 v' hg ho => by
      have hg0 := hg
      rw [← HPV.out] at hg
      obtain ⟨f1, f2, f3⟩ := H6.out.newPart (y := ⟨y.name, y.file, y.line, ⟨none, 0, []⟩⟩) rfl o hg ho
      rw [HPV.out] at f3
      refine ⟨⟨f1, HT6.out.trans f2, ?_⟩, f3⟩
      refine (heap_setCell_other _ _ _ _ (by show wy.heap.size ≠ w0.heap.size; omega)).trans ((hg.block _ (by simp; omega) (fun e => ?_)).trans ((Below.heap_alloc _ _ _ hyz).trans HX6.out))
      have := own_lt H1.out.ri.jb.is.parts _ e.symm
      omega
     go_wp2_with ((with_reducible show wpList _ _ _ (⟨some 44, _, _, _, _, _⟩ :: _) _ _); go_loud (refine wpList_app EPart rfl _ _ rfl W.heap.size (.slice pp X1.ps.length cp) X1.ps.length (X1.ps.flatMap PtR.cells) rfl (own_below HPO.out (alloc_below _ _)) _ 1 1 (PtR.cells ⟨y.name, y.file, y.line, ⟨none, 0, []⟩⟩) rfl rfl (by intro h; cases h) (row_blkAt (heap_alloc_new _ _)) (ptr_ones _) (by unfold maxLen; omega) (by omega) (by simp; omega) ?_); go_loud (intro v8 w8 ho8 hg8 hs8; obtain ⟨vp8, vc8, rfl, -⟩ := own_shape ho8; obtain ⟨f1, f3⟩ := HFIN.out _ w8 _ hg8 ho8; have o8 := cell_of_row _ _ 0 _ _ _ f3; have o9 := frozen_of_row _ _ 0 _ _ f3; simp only [List.getElem?_toArray, List.getElem?_cons_zero, List.getElem?_cons_succ] at o8; have HF := hid f1; clear f1 f3 ho8 hg8 hs8))
     go_meet
     exact ⟨X1.ps.length, { X1 with pv := .slice vp8 (X1.ps.length + 1) vc8, ps := X1.ps ++ [⟨y.name, y.file, y.line, ⟨none, 0, []⟩⟩] }, rfl, ⟨rfl, rfl, rfl, rfl, rfl, rfl, .inr ⟨rfl, rfl, HR.out.symm⟩⟩, HF.out.1, HF.out.2.1, HF.out.2.2⟩
   case rest =>
    rename World => w7
    obtain ⟨i, X2, rfl, hp2, hj2, ht2, hx2⟩ := hcut
    have HP2 := hid hp2
    have HJ2 := hid hj2
    have HT2 := hid ht2
    have HX2 := hid hx2
    clear d0 d1 d2 d3 ob0
    obtain ⟨z, hz2⟩ : ∃ z, X2.ps[i]? = some z := by
     rcases hp2.ps with ⟨e1, e2⟩ | ⟨e1, e2, e3⟩
     ·exact ⟨_, List.getElem?_eq_getElem (by have := idx_lt e2; rw [e1]; simpa using this)⟩
     ·exact ⟨_, List.getElem?_eq_getElem (by rw [e1, e2]; simp)⟩
    have HZ := hid hz2
    obtain ⟨g, cg, hpv2, hg3, -, hgl, hgt, hge, -⟩ := hj2.jb.part hz2
    have hob := hj2.jb.head
    rw [hpv2] at hob
    have ob0 := cell_of_row _ _ 0 _ _ _ hob
    simp only [List.getElem?_toArray, List.getElem?_cons_zero, List.getElem?_cons_succ] at ob0
    obtain ⟨s, hs⟩ : ∃ s, s = z.pieces := ⟨_, rfl⟩
    have HZS := hid hs
    rw [← hs] at hg3
    obtain ⟨zp, zc, zl⟩ := s
    unfold Sl.val at hg3
    dsimp only at hg3
    have hax := H1.out.ax.tr ht2.j0
    have HAX := hid hax
    have hzl : zl.length ≤ 2000000 := by
     have q := HP2.out.sm H1.out.sm
     have h1 := q.pcs z (List.mem_of_getElem? hz2)
     rw [← hs] at h1
     have h2 := HPC.out; have h3 := HPL.out; have h5 := HC.out
     have h4 : u.cost = ptCost u.parts.l + u.marks.l.length + u.globals.l.length := rfl
     dsimp only at h1
     omega
    clear hp2 hj2 ht2 hx2 hz2 hpv2 hob hs hax
    have hgl2 : w0.heap.size < w7.heap.size := HJ2.out.jb.lt
    have HNE : Hid (∀ v n xs, w7.ownsRow W.heap.size 3 1 v n xs → ∀ q, v.ownBlock = some q → q ≠ w0.heap.size ∧ q ≠ g) := fun v n xs ho q hq => ⟨tag_ne (own_tag ho hq) HJ2.out.jb.tag (by decide), tag_ne (own_tag ho hq) hgt (by decide)⟩
    obtain ⟨pvp, pvc, hpvE, -⟩ := own_shape HAX.out.p
    obtain ⟨fvp, fvc, hfvE, -⟩ := own_shape HAX.out.f
    subst hpvE
    subst hfvE
    have HPN : Hid (∀ q, (Value.slice pvp PL.length pvc).ownBlock = some q → q ≠ w0.heap.size ∧ q ≠ g) := HNE.out _ _ _ HAX.out.p
    have HSA : Hid (∀ (w : World) (o : Obj), SameAt w0.heap.size g w7 w → SameAt w0.heap.size g w7 (w.alloc o)) := fun w o h => h.alloc hgl2 hgl o
    have HSP : Hid (∀ (w w' : World), SameAt w0.heap.size g w7 w → w.grownBy w' (Value.slice pvp PL.length pvc).ownBlock → SameAt w0.heap.size g w7 w') := fun w w' h hg => h.grown hgl2 hgl hg HPN.out
    have HK0 : Hid (∀ w : World, SameAt w0.heap.size g w7 w → w.cell? ⟨w0.heap.size, 0, none⟩ = some (.slice (some ⟨g, 0, none⟩) X2.ps.length cg)) := fun w h => (World.cell?_of_block (a := ⟨w0.heap.size, 0, none⟩) h.a).trans ob0
    have HK3 : Hid (∀ w : World, SameAt w0.heap.size g w7 w → w.cell? ⟨g, i * 4 + 3, none⟩ = some (.slice zp zl.length zc)) := fun w h => (World.cell?_of_block (a := ⟨g, i * 4 + 3, none⟩) h.b).trans hg3
    have HH0 : Hid (SameAt w0.heap.size g w7 w7) := ⟨Nat.le_refl _, rfl, rfl⟩
    have hil : (i : Int) < X2.ps.length := by have := (List.getElem?_eq_some_iff.1 HZ.out).1; omega
    have hil2 : i < X2.ps.length := by omega
    have hpll : PL.length ≤ 2000000 := by have := congrArg (fun q => q.2.1.length) H1.out.pl; rw [(joinParts_ms _ _).2.2.2.1] at this; simp at this; have h3 := HNP.out; omega
    have hfll : FL.length ≤ 2000000 := by have := congrArg (fun q => q.2.2.length) H1.out.pl; rw [(joinParts_ms _ _).2.2.2.2] at this; simp at this; have h3 := HNP.out; omega
    have hbw7 : W.heap.size ≤ w7.heap.size := HJ2.out.jb.hz
    clear HNE ob0 hg3
    go_upto_region 12 with (first
     | ((with_reducible show wpList _ _ _ (⟨some 49, _, _, _, _, _⟩ :: _) _ _); go_loud (refine wpList_app EInt rfl _ _ rfl W.heap.size (.slice pvp PL.length pvc) PL.length (PL.map natV) rfl (own_below HAX.out.p (alloc_below _ _)) _ 1 1 [natV i] rfl rfl (by intro h; cases h) (row_blkAt (heap_alloc_new _ _)) (nat_ones [i]) (by unfold maxLen; omega) (by omega) (by simp; omega) ?_); go_loud (intro p1 wa hop hgp hsp; obtain ⟨p1p, p1c, rfl, -⟩ := own_shape hop; have HOP := hid hop; have HGP := hid hgp; have HSTP := hid hsp; clear hop hgp hsp; have HWA := hid (HSP.out _ _ (HSA.out _ _ HH0.out) HGP.out); have ob0 := HK0.out _ HWA.out; have g3 := HK3.out _ HWA.out))
     | ((with_reducible show wpList _ _ _ (⟨some 59, _, _, _, _, _⟩ :: _) _ _); go_loud (refine wpList_app EInt rfl _ _ rfl W.heap.size (.slice fvp FL.length fvc) FL.length (FL.map natV) rfl ((own_kept (own_below HAX.out.f (alloc_below _ _)) HGP.out HAX.out.ap.symm).alloc _) _ 1 1 [natV zl.length] rfl rfl (by intro h; cases h) (row_blkAt (heap_alloc_new _ _)) (nat_ones [zl.length]) (by unfold maxLen; omega) (by omega) (by have := HWA.out.sz; simp; omega) ?_); go_loud (intro f1 wb hof hgf hsf; obtain ⟨f1p, f1c, rfl, -⟩ := own_shape hof; have HOF := hid hof; have HGF := hid hgf; have HSTF := hid hsf; clear hof hgf hsf)))
    obtain ⟨hax8, ht8⟩ := two_app (ob := w0.heap.size) HAX.out HJ2.out.jb.hz (alloc_below _ _) HOP.out HGP.out HSTP.out (alloc_below _ _) HOF.out HGF.out HSTF.out
    have HAX8 := hid hax8
    have HT8 := hid ht8
    have HJ8 := hid (HJ2.out.ints ht8)
    have HX8 : Hid (wb.heap[wy.heap.size]? = some (.cells y.cells.toArray 50 (0, 0))) := (ht8.t.2.tag _ _ (tag_row HX2.out) (by unfold isPI; decide)).trans HX2.out
    clear hax8 ht8 ob0 g3 HOP HGP HSTP HOF HGF HSTF HWA HSA HSP HK0 HK3 HH0 HPN hgl hgt hge hgl2
    obtain ⟨wd, hwd⟩ : ∃ wd, wd = wb.drew := ⟨_, rfl⟩
    have hbd : Below wb.heap.size wb wd := by rw [hwd]; exact (Below.refl _ _).drew
    have hjd := HJ8.out.below hbd
    obtain ⟨g4, c4, hpv4, hg3, hf3, hgl, hgt, hge, -⟩ := hjd.jb.part HZ.out
    have hob := hjd.jb.head
    rw [hpv4] at hob
    have ob0 := cell_of_row _ _ 0 _ _ _ hob
    simp only [List.getElem?_toArray, List.getElem?_cons_zero, List.getElem?_cons_succ] at ob0
    have hzo := hjd.jb.is.pcs i z HZ.out
    rw [← HZS.out] at hg3 hzo
    unfold Sl.val at hg3 hzo
    dsimp only at hg3 hzo
    obtain ⟨NQ, hNQ⟩ : ∃ NQ, NQ = y.pieces.l.length := ⟨_, rfl⟩
    have HNQ := hid hNQ
    have hx8 : wd.heap[wy.heap.size]? = some (.cells y.cells.toArray 50 (0, 0)) := by rw [hwd]; exact HX8.out
    have d3 := cell_of_row _ _ 3 _ _ _ hx8
    simp only [PtR.cells, Sl.val, List.getElem?_toArray, List.getElem?_cons_zero, List.getElem?_cons_succ] at d3
    rw [← hNQ] at d3
    have hnq : NQ ≤ 2000000 := by
     have h2 := HPC.out; have h3 := HPL.out; have h5 := HC.out
     have h4 : u.cost = ptCost u.parts.l + u.marks.l.length + u.globals.l.length := rfl
     omega
    have HPD := HPT.out.below hjd.b
    have HCP := hid (copied_any y.pieces wd HPD.row (by omega) HPD.pcs)
    rw [← hNQ] at HCP
    have HZO := hid hzo
    have hg4l : w0.heap.size < wd.heap.size := hjd.jb.lt
    have hbwd : W.heap.size ≤ wd.heap.size := hjd.jb.hz
    have HZT : Hid (∀ q, (Value.slice zp zl.length zc).ownBlock = some q → tagAt wd q = some (64 + 1)) := fun q hq => own_tag hzo hq
    have HG4 : Hid (∀ (w2 w5 : World), Below wd.heap.size wd w2 → w2.grownBy w5 (Value.slice zp zl.length zc).ownBlock → w5.cell? ⟨g4, i * 4 + 3, none⟩ = some (.slice zp zl.length zc) ∧ w5.frozen? ⟨g4, i * 4 + 3, none⟩ = false ∧ w5.cell? ⟨w0.heap.size, 0, none⟩ = some (.slice (some ⟨g4, 0, none⟩) X2.ps.length c4)) := fun w2 w5 hb2 hg => by
     have e0 : w5.heap[w0.heap.size]? = wd.heap[w0.heap.size]? := (hg.block w0.heap.size (Nat.lt_of_lt_of_le hg4l hb2.size) (fun e => tag_ne (HZT.out w0.heap.size e.symm) hjd.jb.tag (by decide) rfl)).trans (hb2.block _ hg4l)
     have e : w5.heap[g4]? = wd.heap[g4]? := (hg.block g4 (Nat.lt_of_lt_of_le hgl hb2.size) (fun e => tag_ne (HZT.out g4 e.symm) hgt (by decide) rfl)).trans (hb2.block _ hgl)
     exact ⟨(World.cell?_of_block (a := ⟨g4, i * 4 + 3, none⟩) e).trans hg3, (World.frozen?_of_block (a := ⟨g4, i * 4 + 3, none⟩) e).trans hf3, (World.cell?_of_block (a := ⟨w0.heap.size, 0, none⟩) e0).trans ob0⟩
    have HFIN : Hid (∀ (w2 : World) (xs : List PcR) (w5 : World) (p5 : Option Addr) (c5 : Nat), Below wd.heap.size wd w2 → xs.map PcR.pl = y.pieces.l.map PcR.pl → (∀ x ∈ xs, PcOk w2 0 x) → w5.ownsRow W.heap.size 64 11 (.slice p5 (zl.length + NQ) c5) (zl.length + NQ) (zl.flatMap PcR.cells ++ xs.flatMap PcR.cells) → w2.grownBy w5 (Value.slice zp zl.length zc).ownBlock → Stayed w2 (.slice zp zl.length zc) (.slice p5 (zl.length + NQ) c5) →
      ∃ X5, PJR W w0 X.pl n u (j + 1) (.slice p1p (PL.length + 1) p1c) (.slice f1p (FL.length + 1) f1c) X5 (PL ++ [i]) (FL ++ [zl.length]) (w5.setCell ⟨g4, i * 4 + 3, none⟩ (.slice p5 (zl.length + NQ) c5))) := fun w2 xs w5 p5 c5 hb2 hx hok ho hg hst => by
     have hz : z.pieces.l.length = zl.length := by rw [← HZS.out]
     have hzc : z.pieces.l = zl := by rw [← HZS.out]
     have hzv : z.pieces.val = .slice zp zl.length zc := by rw [← HZS.out]; rfl
     have q := HJ8.out.pcsMore (w' := w2) (hbd.trans (hb2.mono hbd.size)) HZ.out hpv4 (xs := xs) (l := y.pieces.l) hx hok (p5 := p5) (c5 := c5) (w5 := w5) (by rw [hzc, ← HNQ.out]; exact ho) (by rw [hzv]; exact hg) (by rw [hzv, hzc, ← HNQ.out]; exact hst) (HP2.out.sm H1.out.sm)
     rw [hzc, ← HNQ.out] at q
     obtain ⟨X5, r1, r2, r3, r4⟩ := q
     have hpcs : pcsAt X2.pl i = zl.length := by
      unfold pcsAt FV.pl
      dsimp only
      rw [List.getElem?_map, HZ.out]
      show (z.pieces.l.map PcR.pl).length = _
      rw [List.length_map, ← HZS.out]
     refine ⟨X5, r1, ?_, ?_, HAX8.out.tr r2.j0⟩
     ·rw [HSJ.out, ← H1.out.pl]
      unfold jpStep FP.joinPart
      dsimp only
      rw [show X1.pl.part y.pl.file y.pl.line y.pl.name = (X2.pl, i) from HP2.out.plain]
      dsimp only
      rw [r3, hpcs]
      rfl
     ·refine r4.mono2 ?_
      rw [HPC.out, ← HNQ.out]; omega
    have HXO : Hid (∀ xs : List PcR, xs.map PcR.pl = y.pieces.l.map PcR.pl → (xs.flatMap PcR.cells).length = NQ * 11) := fun xs hx => by
     have := congrArg List.length hx
     rw [List.length_map, List.length_map] at this
     rw [flat_len PcR.cells 11 (fun _ => rfl), this, ← HNQ.out]; omega
    clear hbd hjd hpv4 hf3 hgt hge hob hzo hNQ hx8 HPD
    refine wp_region_held_drew (S := fun _ => True) (by kernel_rfl) trivial (fun hHeld => ?_)
    rw [← hwd] at *
    refine wpAnyH_take (i := 0) (oi := { dst := some 60, op := Op.fieldAddr 32 (Operand.tmp 2) 0, type := 0, pos := "ref.go:179", after := #[], guard := none }) (v := ?pev0) rfl (by kernel_rfl) (by kernel_rfl) (by kernel_rfl) (fun _ _ _ h => h) (Or.inl ⟨by rfl, ?peh0⟩) (by assumption) ?per0
    case peh0 => ((intro w hSw; (try dsimp only at hSw); go_simp); try with_reducible rfl)
    try simp only [Act.put, List.setIfInBounds_toArray, List.set_cons_zero, List.set_cons_succ]
    refine wpAnyH_take (i := 2) (oi := { dst := some 62, op := Op.move (Operand.tmp 9), type := 3, pos := "ref.go:179", after := #[], guard := none }) (v := ?pev2) rfl (by kernel_rfl) (by kernel_rfl) (by kernel_rfl) (fun _ _ _ h => h) (Or.inl ⟨by rfl, ?peh2⟩) (by assumption) ?per2
    case peh2 => ((intro w hSw; (try dsimp only at hSw); go_simp); try with_reducible rfl)
    try simp only [Act.put, List.setIfInBounds_toArray, List.set_cons_zero, List.set_cons_succ]
    refine wpAnyH_take (i := 3) (oi := { dst := some 63, op := Op.fieldAddr 32 (Operand.tmp 2) 0, type := 0, pos := "ref.go:179", after := #[], guard := none }) (v := ?pev3) rfl (by kernel_rfl) (by kernel_rfl) (by kernel_rfl) (fun _ _ _ h => h) (Or.inl ⟨by rfl, ?peh3⟩) (by assumption) ?per3
    case peh3 => ((intro w hSw; (try dsimp only at hSw); go_simp); try with_reducible rfl)
    try simp only [Act.put, List.setIfInBounds_toArray, List.set_cons_zero, List.set_cons_succ]
    refine wpAnyH_take (i := 5) (oi := { dst := some 65, op := Op.move (Operand.tmp 9), type := 3, pos := "ref.go:179", after := #[], guard := none }) (v := ?pev5) rfl (by kernel_rfl) (by kernel_rfl) (by kernel_rfl) (fun _ _ _ h => h) (Or.inl ⟨by rfl, ?peh5⟩) (by assumption) ?per5
    case peh5 => ((intro w hSw; (try dsimp only at hSw); go_simp); try with_reducible rfl)
    try simp only [Act.put, List.setIfInBounds_toArray, List.set_cons_zero, List.set_cons_succ]
    refine wpAnyH_take (i := 9) (oi := { dst := some 69, op := Op.fieldAddr 50 (Operand.tmp 8) 3, type := 0, pos := "ref.go:179", after := #[], guard := none }) (v := ?pev9) rfl (by kernel_rfl) (by kernel_rfl) (by kernel_rfl) (fun _ _ _ h => h) (Or.inl ⟨by rfl, ?peh9⟩) (by assumption) ?per9
    case peh9 => ((intro w hSw; (try dsimp only at hSw); go_simp); try with_reducible rfl)
    try simp only [Act.put, List.setIfInBounds_toArray, List.set_cons_zero, List.set_cons_succ]
    refine wpAnyH_ready (rs := [1, 4, 10]) (by kernel_rfl) (by simp) ?_
    refine AllReadyH.cons (o := { dst := some 61, op := Op.load 28 (Operand.tmp 60), type := 28, pos := "ref.go:179", after := #[{ on := 0, ground := Ground.data }], guard := none }) rfl (fun K hK => ?_) ?_
    ·go_simp; refine hK.out _ _ trivial (fun hHeld => ?_)
     clear hK K
     try simp only [Act.put, List.setIfInBounds_toArray, List.set_cons_zero, List.set_cons_succ]
     refine wpAnyH_ready (rs := [4, 10]) (by kernel_rfl) (by simp) ?_
     refine AllReadyH.cons (o := { dst := some 64, op := Op.load 28 (Operand.tmp 63), type := 28, pos := "ref.go:179", after := #[{ on := 3, ground := Ground.data }], guard := none }) rfl (fun K hK => ?_) ?_
     ·go_simp; refine hK.out _ _ trivial (fun hHeld => ?_)
      clear hK K
      try simp only [Act.put, List.setIfInBounds_toArray, List.set_cons_zero, List.set_cons_succ]
      refine wpAnyH_take (i := 6) (oi := { dst := some 66, op := Op.indexAddr 28 (Operand.tmp 64) (Operand.tmp 65), type := 0, pos := "ref.go:179", after := #[{ on := 4, ground := Ground.data }, { on := 5, ground := Ground.data }], guard := none }) (v := ?peaav6) rfl (by kernel_rfl) (by kernel_rfl) (by kernel_rfl) (fun _ _ _ h => h) (Or.inl ⟨by rfl, ?peaah6⟩) (by assumption) ?peaar6
      case peaah6 => ((intro w hSw; (try dsimp only at hSw); go_simp); try with_reducible rfl)
      try simp only [Act.put, List.setIfInBounds_toArray, List.set_cons_zero, List.set_cons_succ]
      refine wpAnyH_take (i := 7) (oi := { dst := some 67, op := Op.fieldAddr 50 (Operand.tmp 66) 3, type := 0, pos := "ref.go:179", after := #[{ on := 6, ground := Ground.data }], guard := none }) (v := ?peaav7) rfl (by kernel_rfl) (by kernel_rfl) (by kernel_rfl) (fun _ _ _ h => h) (Or.inl ⟨by rfl, ?peaah7⟩) (by assumption) ?peaar7
      case peaah7 => ((intro w hSw; (try dsimp only at hSw); go_simp); try with_reducible rfl)
      try simp only [Act.put, List.setIfInBounds_toArray, List.set_cons_zero, List.set_cons_succ]
      refine wpAnyH_ready (rs := [8, 10]) (by kernel_rfl) (by simp) ?_
      refine AllReadyH.cons (o := { dst := some 68, op := Op.load 48 (Operand.tmp 67), type := 48, pos := "ref.go:179", after := #[{ on := 7, ground := Ground.data }], guard := none }) rfl (fun K hK => ?_) ?_
      ·go_simp; refine hK.out _ _ trivial (fun hHeld => ?_)
       clear hK K
       try simp only [Act.put, List.setIfInBounds_toArray, List.set_cons_zero, List.set_cons_succ]
       refine wpAnyH_ready (rs := [10]) (by kernel_rfl) (by simp) ?_
       refine AllReadyH.cons (o := { dst := some 70, op := Op.load 48 (Operand.tmp 69), type := 48, pos := "ref.go:179", after := #[{ on := 9, ground := Ground.data }], guard := none }) rfl (fun K hK => ?_) AllReadyH.nil
       go_simp; refine hK.out _ _ trivial (fun hHeld => ?_)
       clear hK K
       try simp only [Act.put, List.setIfInBounds_toArray, List.set_cons_zero, List.set_cons_succ]
       refine wpAnyH_ready (rs := [11]) (by kernel_rfl) (by simp) ?_
       refine AllReadyH.cons (o := { dst := some 71, op := Op.call { callee := Callee.value (Operand.func 51), args := #[Operand.tmp 70], argTypes := #[48] }, type := 48, pos := "ref.go:179", after := #[{ on := 10, ground := Ground.data }], guard := none }) rfl (fun K hK => ?_) AllReadyH.nil
       go_simp; go_at_call 51; (with_reducible refine HCP.out.mono ?_); rintro e w2 ⟨⟨v, xs, rfl, hxo, hxp, hxk⟩, hb2⟩; rw [← HNQ.out] at hxo; obtain ⟨cp2, cc2, rfl, hxr, hxn⟩ := own_sh hxo; have ob2 := (hb2.cell (p := ⟨w0.heap.size, 0, none⟩) hg4l).trans ob0; have hg2 := (hb2.cell (p := ⟨g4, i * 4 + 3, none⟩) hgl).trans hg3; have HB2 := hid hb2; have HXP := hid hxp; have HXK := hid hxk; have HXR := hid hxr; clear hxo hb2 hxp hxk hxr; refine hK.out _ _ trivial (fun hHeld => ?_)
       clear hK K
       try simp only [Act.put, List.setIfInBounds_toArray, List.set_cons_zero, List.set_cons_succ]
       refine wpAnyH_ready (rs := [12]) (by kernel_rfl) (by simp) ?_
       refine AllReadyH.cons (o := { dst := some 72, op := Op.call { callee := Callee.builtin Builtin.append, args := #[Operand.tmp 68, Operand.tmp 71], argTypes := #[48, 48] }, type := 48, pos := "ref.go:179", after := #[{ on := 8, ground := Ground.data }, { on := 11, ground := Ground.data }, { on := 11, ground := Ground.chain }], guard := none }) rfl (fun K hK => ?_) AllReadyH.nil
       (refine step_appO EPiece rfl (.tmp 68) (.tmp 71) rfl W.heap.size (.slice zp zl.length zc) zl.length (zl.flatMap PcR.cells) rfl (own_below HZO.out HB2.out) cp2 NQ cc2 (xs.flatMap PcR.cells) rfl (HXO.out _ HXP.out) hxn HXR.out (fun v hv => by obtain ⟨t, -, h⟩ := List.mem_flatMap.1 hv; exact pcr_ones t v h) (by unfold maxLen; omega) (by omega) (Nat.le_trans hbwd HB2.out.size) ?_); intro v5 w5 ho5 hg5 hs5; obtain ⟨p5, c5, rfl, -⟩ := own_shape ho5; obtain ⟨t3, t4, t5⟩ := HG4.out _ _ HB2.out hg5; have HF5 := hid (HFIN.out _ _ _ _ _ HB2.out HXP.out HXK.out ho5 hg5 hs5); clear ho5 hg5 hs5; refine hK.out _ _ trivial (fun hHeld => ?_)
       clear hK K
       try simp only [Act.put, List.setIfInBounds_toArray, List.set_cons_zero, List.set_cons_succ]
       refine wpAnyH_take (i := 13) (oi := { dst := some 73, op := Op.indexAddr 28 (Operand.tmp 61) (Operand.tmp 62), type := 0, pos := "ref.go:179", after := #[{ on := 1, ground := Ground.data }, { on := 2, ground := Ground.data }, { on := 0, ground := Ground.phase }, { on := 1, ground := Ground.phase }, { on := 2, ground := Ground.phase }, { on := 3, ground := Ground.phase }, { on := 4, ground := Ground.phase }, { on := 5, ground := Ground.phase }, { on := 6, ground := Ground.phase }, { on := 7, ground := Ground.phase }, { on := 8, ground := Ground.phase }, { on := 9, ground := Ground.phase }, { on := 10, ground := Ground.phase }, { on := 11, ground := Ground.phase }, { on := 12, ground := Ground.phase }], guard := none }) (v := ?peaaav13) rfl (by kernel_rfl) (by kernel_rfl) (by kernel_rfl) (fun _ _ _ h => h) (Or.inl ⟨by rfl, ?peaaah13⟩) (by assumption) ?peaaar13
       case peaaah13 => ((intro w hSw; (try dsimp only at hSw); go_simp); try with_reducible rfl)
       try simp only [Act.put, List.setIfInBounds_toArray, List.set_cons_zero, List.set_cons_succ]
       refine wpAnyH_take (i := 14) (oi := { dst := some 74, op := Op.fieldAddr 50 (Operand.tmp 73) 3, type := 0, pos := "ref.go:179", after := #[{ on := 13, ground := Ground.data }, { on := 0, ground := Ground.phase }, { on := 1, ground := Ground.phase }, { on := 2, ground := Ground.phase }, { on := 3, ground := Ground.phase }, { on := 4, ground := Ground.phase }, { on := 5, ground := Ground.phase }, { on := 6, ground := Ground.phase }, { on := 7, ground := Ground.phase }, { on := 8, ground := Ground.phase }, { on := 9, ground := Ground.phase }, { on := 10, ground := Ground.phase }, { on := 11, ground := Ground.phase }, { on := 12, ground := Ground.phase }], guard := none }) (v := ?peaaav14) rfl (by kernel_rfl) (by kernel_rfl) (by kernel_rfl) (fun _ _ _ h => h) (Or.inl ⟨by rfl, ?peaaah14⟩) (by assumption) ?peaaar14
       case peaaah14 => ((intro w hSw; (try dsimp only at hSw); go_simp); try with_reducible rfl)
       try simp only [Act.put, List.setIfInBounds_toArray, List.set_cons_zero, List.set_cons_succ]
       refine wpAnyH_ready (rs := [15]) (by kernel_rfl) (by simp) ?_
       refine AllReadyH.cons (o := { dst := none, op := Op.store 48 (Operand.tmp 74) (Operand.tmp 72), type := 0, pos := "ref.go:179", after := #[{ on := 14, ground := Ground.data }, { on := 12, ground := Ground.data }, { on := 12, ground := Ground.chain }, { on := 0, ground := Ground.phase }, { on := 1, ground := Ground.phase }, { on := 2, ground := Ground.phase }, { on := 3, ground := Ground.phase }, { on := 4, ground := Ground.phase }, { on := 5, ground := Ground.phase }, { on := 6, ground := Ground.phase }, { on := 7, ground := Ground.phase }, { on := 8, ground := Ground.phase }, { on := 9, ground := Ground.phase }, { on := 10, ground := Ground.phase }, { on := 11, ground := Ground.phase }, { on := 12, ground := Ground.phase }], guard := none }) rfl (fun K hK => ?_) AllReadyH.nil
       go_simp; refine hK.out _ _ trivial (fun hHeld => ?_)
       clear hK K
       try simp only [Act.put, List.setIfInBounds_toArray, List.set_cons_zero, List.set_cons_succ]
       refine wpAnyH_done (by kernel_rfl) ?_ _
       go_wp2_with fail
       obtain ⟨X5, h5⟩ := HF5.out
       exact ⟨⟨j + 1, by omega, by go_num, X5, _, _, h5⟩, by simp [intOf]; omega⟩
      refine AllReadyH.cons (o := { dst := some 70, op := Op.load 48 (Operand.tmp 69), type := 48, pos := "ref.go:179", after := #[{ on := 9, ground := Ground.data }], guard := none }) rfl (fun K hK => ?_) AllReadyH.nil
      go_simp; refine hK.out _ _ trivial (fun hHeld => ?_)
      clear hK K
      try simp only [Act.put, List.setIfInBounds_toArray, List.set_cons_zero, List.set_cons_succ]
      refine wpAnyH_ready (rs := [8, 11]) (by kernel_rfl) (by simp) ?_
      refine AllReadyH.cons (o := { dst := some 68, op := Op.load 48 (Operand.tmp 67), type := 48, pos := "ref.go:179", after := #[{ on := 7, ground := Ground.data }], guard := none }) rfl (fun K hK => ?_) ?_
      ·go_simp; refine hK.out _ _ trivial (fun hHeld => ?_)
       clear hK K
       try simp only [Act.put, List.setIfInBounds_toArray, List.set_cons_zero, List.set_cons_succ]
       refine wpAnyH_ready (rs := [11]) (by kernel_rfl) (by simp) ?_
       refine AllReadyH.cons (o := { dst := some 71, op := Op.call { callee := Callee.value (Operand.func 51), args := #[Operand.tmp 70], argTypes := #[48] }, type := 48, pos := "ref.go:179", after := #[{ on := 10, ground := Ground.data }], guard := none }) rfl (fun K hK => ?_) AllReadyH.nil
       go_simp; go_at_call 51; (with_reducible refine HCP.out.mono ?_); rintro e w2 ⟨⟨v, xs, rfl, hxo, hxp, hxk⟩, hb2⟩; rw [← HNQ.out] at hxo; obtain ⟨cp2, cc2, rfl, hxr, hxn⟩ := own_sh hxo; have ob2 := (hb2.cell (p := ⟨w0.heap.size, 0, none⟩) hg4l).trans ob0; have hg2 := (hb2.cell (p := ⟨g4, i * 4 + 3, none⟩) hgl).trans hg3; have HB2 := hid hb2; have HXP := hid hxp; have HXK := hid hxk; have HXR := hid hxr; clear hxo hb2 hxp hxk hxr; refine hK.out _ _ trivial (fun hHeld => ?_)
       clear hK K
       try simp only [Act.put, List.setIfInBounds_toArray, List.set_cons_zero, List.set_cons_succ]
       refine wpAnyH_ready (rs := [12]) (by kernel_rfl) (by simp) ?_
       refine AllReadyH.cons (o := { dst := some 72, op := Op.call { callee := Callee.builtin Builtin.append, args := #[Operand.tmp 68, Operand.tmp 71], argTypes := #[48, 48] }, type := 48, pos := "ref.go:179", after := #[{ on := 8, ground := Ground.data }, { on := 11, ground := Ground.data }, { on := 11, ground := Ground.chain }], guard := none }) rfl (fun K hK => ?_) AllReadyH.nil
       (refine step_appO EPiece rfl (.tmp 68) (.tmp 71) rfl W.heap.size (.slice zp zl.length zc) zl.length (zl.flatMap PcR.cells) rfl (own_below HZO.out HB2.out) cp2 NQ cc2 (xs.flatMap PcR.cells) rfl (HXO.out _ HXP.out) hxn HXR.out (fun v hv => by obtain ⟨t, -, h⟩ := List.mem_flatMap.1 hv; exact pcr_ones t v h) (by unfold maxLen; omega) (by omega) (Nat.le_trans hbwd HB2.out.size) ?_); intro v5 w5 ho5 hg5 hs5; obtain ⟨p5, c5, rfl, -⟩ := own_shape ho5; obtain ⟨t3, t4, t5⟩ := HG4.out _ _ HB2.out hg5; have HF5 := hid (HFIN.out _ _ _ _ _ HB2.out HXP.out HXK.out ho5 hg5 hs5); clear ho5 hg5 hs5; refine hK.out _ _ trivial (fun hHeld => ?_)
       clear hK K
       try simp only [Act.put, List.setIfInBounds_toArray, List.set_cons_zero, List.set_cons_succ]
       refine wpAnyH_take (i := 13) (oi := { dst := some 73, op := Op.indexAddr 28 (Operand.tmp 61) (Operand.tmp 62), type := 0, pos := "ref.go:179", after := #[{ on := 1, ground := Ground.data }, { on := 2, ground := Ground.data }, { on := 0, ground := Ground.phase }, { on := 1, ground := Ground.phase }, { on := 2, ground := Ground.phase }, { on := 3, ground := Ground.phase }, { on := 4, ground := Ground.phase }, { on := 5, ground := Ground.phase }, { on := 6, ground := Ground.phase }, { on := 7, ground := Ground.phase }, { on := 8, ground := Ground.phase }, { on := 9, ground := Ground.phase }, { on := 10, ground := Ground.phase }, { on := 11, ground := Ground.phase }, { on := 12, ground := Ground.phase }], guard := none }) (v := ?peaabav13) rfl (by kernel_rfl) (by kernel_rfl) (by kernel_rfl) (fun _ _ _ h => h) (Or.inl ⟨by rfl, ?peaabah13⟩) (by assumption) ?peaabar13
       case peaabah13 => ((intro w hSw; (try dsimp only at hSw); go_simp); try with_reducible rfl)
       try simp only [Act.put, List.setIfInBounds_toArray, List.set_cons_zero, List.set_cons_succ]
       refine wpAnyH_take (i := 14) (oi := { dst := some 74, op := Op.fieldAddr 50 (Operand.tmp 73) 3, type := 0, pos := "ref.go:179", after := #[{ on := 13, ground := Ground.data }, { on := 0, ground := Ground.phase }, { on := 1, ground := Ground.phase }, { on := 2, ground := Ground.phase }, { on := 3, ground := Ground.phase }, { on := 4, ground := Ground.phase }, { on := 5, ground := Ground.phase }, { on := 6, ground := Ground.phase }, { on := 7, ground := Ground.phase }, { on := 8, ground := Ground.phase }, { on := 9, ground := Ground.phase }, { on := 10, ground := Ground.phase }, { on := 11, ground := Ground.phase }, { on := 12, ground := Ground.phase }], guard := none }) (v := ?peaabav14) rfl (by kernel_rfl) (by kernel_rfl) (by kernel_rfl) (fun _ _ _ h => h) (Or.inl ⟨by rfl, ?peaabah14⟩) (by assumption) ?peaabar14
       case peaabah14 => ((intro w hSw; (try dsimp only at hSw); go_simp); try with_reducible rfl)
       try simp only [Act.put, List.setIfInBounds_toArray, List.set_cons_zero, List.set_cons_succ]
       refine wpAnyH_ready (rs := [15]) (by kernel_rfl) (by simp) ?_
       refine AllReadyH.cons (o := { dst := none, op := Op.store 48 (Operand.tmp 74) (Operand.tmp 72), type := 0, pos := "ref.go:179", after := #[{ on := 14, ground := Ground.data }, { on := 12, ground := Ground.data }, { on := 12, ground := Ground.chain }, { on := 0, ground := Ground.phase }, { on := 1, ground := Ground.phase }, { on := 2, ground := Ground.phase }, { on := 3, ground := Ground.phase }, { on := 4, ground := Ground.phase }, { on := 5, ground := Ground.phase }, { on := 6, ground := Ground.phase }, { on := 7, ground := Ground.phase }, { on := 8, ground := Ground.phase }, { on := 9, ground := Ground.phase }, { on := 10, ground := Ground.phase }, { on := 11, ground := Ground.phase }, { on := 12, ground := Ground.phase }], guard := none }) rfl (fun K hK => ?_) AllReadyH.nil
       go_simp; refine hK.out _ _ trivial (fun hHeld => ?_)
       clear hK K
       try simp only [Act.put, List.setIfInBounds_toArray, List.set_cons_zero, List.set_cons_succ]
       refine wpAnyH_done (by kernel_rfl) ?_ _
       go_wp2_with fail
       obtain ⟨X5, h5⟩ := HF5.out
       exact ⟨⟨j + 1, by omega, by go_num, X5, _, _, h5⟩, by simp [intOf]; omega⟩
      refine AllReadyH.cons (o := { dst := some 71, op := Op.call { callee := Callee.value (Operand.func 51), args := #[Operand.tmp 70], argTypes := #[48] }, type := 48, pos := "ref.go:179", after := #[{ on := 10, ground := Ground.data }], guard := none }) rfl (fun K hK => ?_) AllReadyH.nil
      go_simp; go_at_call 51; (with_reducible refine HCP.out.mono ?_); rintro e w2 ⟨⟨v, xs, rfl, hxo, hxp, hxk⟩, hb2⟩; rw [← HNQ.out] at hxo; obtain ⟨cp2, cc2, rfl, hxr, hxn⟩ := own_sh hxo; have ob2 := (hb2.cell (p := ⟨w0.heap.size, 0, none⟩) hg4l).trans ob0; have hg2 := (hb2.cell (p := ⟨g4, i * 4 + 3, none⟩) hgl).trans hg3; have HB2 := hid hb2; have HXP := hid hxp; have HXK := hid hxk; have HXR := hid hxr; clear hxo hb2 hxp hxk hxr; refine hK.out _ _ trivial (fun hHeld => ?_)
      clear hK K
      try simp only [Act.put, List.setIfInBounds_toArray, List.set_cons_zero, List.set_cons_succ]
      refine wpAnyH_ready (rs := [8]) (by kernel_rfl) (by simp) ?_
      refine AllReadyH.cons (o := { dst := some 68, op := Op.load 48 (Operand.tmp 67), type := 48, pos := "ref.go:179", after := #[{ on := 7, ground := Ground.data }], guard := none }) rfl (fun K hK => ?_) AllReadyH.nil
      go_simp; refine hK.out _ _ trivial (fun hHeld => ?_)
      clear hK K
      try simp only [Act.put, List.setIfInBounds_toArray, List.set_cons_zero, List.set_cons_succ]
      refine wpAnyH_ready (rs := [12]) (by kernel_rfl) (by simp) ?_
      refine AllReadyH.cons (o := { dst := some 72, op := Op.call { callee := Callee.builtin Builtin.append, args := #[Operand.tmp 68, Operand.tmp 71], argTypes := #[48, 48] }, type := 48, pos := "ref.go:179", after := #[{ on := 8, ground := Ground.data }, { on := 11, ground := Ground.data }, { on := 11, ground := Ground.chain }], guard := none }) rfl (fun K hK => ?_) AllReadyH.nil
      (refine step_appO EPiece rfl (.tmp 68) (.tmp 71) rfl W.heap.size (.slice zp zl.length zc) zl.length (zl.flatMap PcR.cells) rfl (own_below HZO.out HB2.out) cp2 NQ cc2 (xs.flatMap PcR.cells) rfl (HXO.out _ HXP.out) hxn HXR.out (fun v hv => by obtain ⟨t, -, h⟩ := List.mem_flatMap.1 hv; exact pcr_ones t v h) (by unfold maxLen; omega) (by omega) (Nat.le_trans hbwd HB2.out.size) ?_); intro v5 w5 ho5 hg5 hs5; obtain ⟨p5, c5, rfl, -⟩ := own_shape ho5; obtain ⟨t3, t4, t5⟩ := HG4.out _ _ HB2.out hg5; have HF5 := hid (HFIN.out _ _ _ _ _ HB2.out HXP.out HXK.out ho5 hg5 hs5); clear ho5 hg5 hs5; refine hK.out _ _ trivial (fun hHeld => ?_)
      clear hK K
      try simp only [Act.put, List.setIfInBounds_toArray, List.set_cons_zero, List.set_cons_succ]
      refine wpAnyH_take (i := 13) (oi := { dst := some 73, op := Op.indexAddr 28 (Operand.tmp 61) (Operand.tmp 62), type := 0, pos := "ref.go:179", after := #[{ on := 1, ground := Ground.data }, { on := 2, ground := Ground.data }, { on := 0, ground := Ground.phase }, { on := 1, ground := Ground.phase }, { on := 2, ground := Ground.phase }, { on := 3, ground := Ground.phase }, { on := 4, ground := Ground.phase }, { on := 5, ground := Ground.phase }, { on := 6, ground := Ground.phase }, { on := 7, ground := Ground.phase }, { on := 8, ground := Ground.phase }, { on := 9, ground := Ground.phase }, { on := 10, ground := Ground.phase }, { on := 11, ground := Ground.phase }, { on := 12, ground := Ground.phase }], guard := none }) (v := ?peaabbv13) rfl (by kernel_rfl) (by kernel_rfl) (by kernel_rfl) (fun _ _ _ h => h) (Or.inl ⟨by rfl, ?peaabbh13⟩) (by assumption) ?peaabbr13
      case peaabbh13 => ((intro w hSw; (try dsimp only at hSw); go_simp); try with_reducible rfl)
      try simp only [Act.put, List.setIfInBounds_toArray, List.set_cons_zero, List.set_cons_succ]
      refine wpAnyH_take (i := 14) (oi := { dst := some 74, op := Op.fieldAddr 50 (Operand.tmp 73) 3, type := 0, pos := "ref.go:179", after := #[{ on := 13, ground := Ground.data }, { on := 0, ground := Ground.phase }, { on := 1, ground := Ground.phase }, { on := 2, ground := Ground.phase }, { on := 3, ground := Ground.phase }, { on := 4, ground := Ground.phase }, { on := 5, ground := Ground.phase }, { on := 6, ground := Ground.phase }, { on := 7, ground := Ground.phase }, { on := 8, ground := Ground.phase }, { on := 9, ground := Ground.phase }, { on := 10, ground := Ground.phase }, { on := 11, ground := Ground.phase }, { on := 12, ground := Ground.phase }], guard := none }) (v := ?peaabbv14) rfl (by kernel_rfl) (by kernel_rfl) (by kernel_rfl) (fun _ _ _ h => h) (Or.inl ⟨by rfl, ?peaabbh14⟩) (by assumption) ?peaabbr14
      case peaabbh14 => ((intro w hSw; (try dsimp only at hSw); go_simp); try with_reducible rfl)
      try simp only [Act.put, List.setIfInBounds_toArray, List.set_cons_zero, List.set_cons_succ]
      refine wpAnyH_ready (rs := [15]) (by kernel_rfl) (by simp) ?_
      refine AllReadyH.cons (o := { dst := none, op := Op.store 48 (Operand.tmp 74) (Operand.tmp 72), type := 0, pos := "ref.go:179", after := #[{ on := 14, ground := Ground.data }, { on := 12, ground := Ground.data }, { on := 12, ground := Ground.chain }, { on := 0, ground := Ground.phase }, { on := 1, ground := Ground.phase }, { on := 2, ground := Ground.phase }, { on := 3, ground := Ground.phase }, { on := 4, ground := Ground.phase }, { on := 5, ground := Ground.phase }, { on := 6, ground := Ground.phase }, { on := 7, ground := Ground.phase }, { on := 8, ground := Ground.phase }, { on := 9, ground := Ground.phase }, { on := 10, ground := Ground.phase }, { on := 11, ground := Ground.phase }, { on := 12, ground := Ground.phase }], guard := none }) rfl (fun K hK => ?_) AllReadyH.nil
      go_simp; refine hK.out _ _ trivial (fun hHeld => ?_)
      clear hK K
      try simp only [Act.put, List.setIfInBounds_toArray, List.set_cons_zero, List.set_cons_succ]
      refine wpAnyH_done (by kernel_rfl) ?_ _
      go_wp2_with fail
      obtain ⟨X5, h5⟩ := HF5.out
      exact ⟨⟨j + 1, by omega, by go_num, X5, _, _, h5⟩, by simp [intOf]; omega⟩
     refine AllReadyH.cons (o := { dst := some 70, op := Op.load 48 (Operand.tmp 69), type := 48, pos := "ref.go:179", after := #[{ on := 9, ground := Ground.data }], guard := none }) rfl (fun K hK => ?_) AllReadyH.nil
     go_simp; refine hK.out _ _ trivial (fun hHeld => ?_)
     clear hK K
     try simp only [Act.put, List.setIfInBounds_toArray, List.set_cons_zero, List.set_cons_succ]
     refine wpAnyH_ready (rs := [4, 11]) (by kernel_rfl) (by simp) ?_
     refine AllReadyH.cons (o := { dst := some 64, op := Op.load 28 (Operand.tmp 63), type := 28, pos := "ref.go:179", after := #[{ on := 3, ground := Ground.data }], guard := none }) rfl (fun K hK => ?_) ?_
     ·go_simp; refine hK.out _ _ trivial (fun hHeld => ?_)
      clear hK K
      try simp only [Act.put, List.setIfInBounds_toArray, List.set_cons_zero, List.set_cons_succ]
      refine wpAnyH_take (i := 6) (oi := { dst := some 66, op := Op.indexAddr 28 (Operand.tmp 64) (Operand.tmp 65), type := 0, pos := "ref.go:179", after := #[{ on := 4, ground := Ground.data }, { on := 5, ground := Ground.data }], guard := none }) (v := ?peabav6) rfl (by kernel_rfl) (by kernel_rfl) (by kernel_rfl) (fun _ _ _ h => h) (Or.inl ⟨by rfl, ?peabah6⟩) (by assumption) ?peabar6
      case peabah6 => ((intro w hSw; (try dsimp only at hSw); go_simp); try with_reducible rfl)
      try simp only [Act.put, List.setIfInBounds_toArray, List.set_cons_zero, List.set_cons_succ]
      refine wpAnyH_take (i := 7) (oi := { dst := some 67, op := Op.fieldAddr 50 (Operand.tmp 66) 3, type := 0, pos := "ref.go:179", after := #[{ on := 6, ground := Ground.data }], guard := none }) (v := ?peabav7) rfl (by kernel_rfl) (by kernel_rfl) (by kernel_rfl) (fun _ _ _ h => h) (Or.inl ⟨by rfl, ?peabah7⟩) (by assumption) ?peabar7
      case peabah7 => ((intro w hSw; (try dsimp only at hSw); go_simp); try with_reducible rfl)
      try simp only [Act.put, List.setIfInBounds_toArray, List.set_cons_zero, List.set_cons_succ]
      refine wpAnyH_ready (rs := [8, 11]) (by kernel_rfl) (by simp) ?_
      refine AllReadyH.cons (o := { dst := some 68, op := Op.load 48 (Operand.tmp 67), type := 48, pos := "ref.go:179", after := #[{ on := 7, ground := Ground.data }], guard := none }) rfl (fun K hK => ?_) ?_
      ·go_simp; refine hK.out _ _ trivial (fun hHeld => ?_)
       clear hK K
       try simp only [Act.put, List.setIfInBounds_toArray, List.set_cons_zero, List.set_cons_succ]
       refine wpAnyH_ready (rs := [11]) (by kernel_rfl) (by simp) ?_
       refine AllReadyH.cons (o := { dst := some 71, op := Op.call { callee := Callee.value (Operand.func 51), args := #[Operand.tmp 70], argTypes := #[48] }, type := 48, pos := "ref.go:179", after := #[{ on := 10, ground := Ground.data }], guard := none }) rfl (fun K hK => ?_) AllReadyH.nil
       go_simp; go_at_call 51; (with_reducible refine HCP.out.mono ?_); rintro e w2 ⟨⟨v, xs, rfl, hxo, hxp, hxk⟩, hb2⟩; rw [← HNQ.out] at hxo; obtain ⟨cp2, cc2, rfl, hxr, hxn⟩ := own_sh hxo; have ob2 := (hb2.cell (p := ⟨w0.heap.size, 0, none⟩) hg4l).trans ob0; have hg2 := (hb2.cell (p := ⟨g4, i * 4 + 3, none⟩) hgl).trans hg3; have HB2 := hid hb2; have HXP := hid hxp; have HXK := hid hxk; have HXR := hid hxr; clear hxo hb2 hxp hxk hxr; refine hK.out _ _ trivial (fun hHeld => ?_)
       clear hK K
       try simp only [Act.put, List.setIfInBounds_toArray, List.set_cons_zero, List.set_cons_succ]
       refine wpAnyH_ready (rs := [12]) (by kernel_rfl) (by simp) ?_
       refine AllReadyH.cons (o := { dst := some 72, op := Op.call { callee := Callee.builtin Builtin.append, args := #[Operand.tmp 68, Operand.tmp 71], argTypes := #[48, 48] }, type := 48, pos := "ref.go:179", after := #[{ on := 8, ground := Ground.data }, { on := 11, ground := Ground.data }, { on := 11, ground := Ground.chain }], guard := none }) rfl (fun K hK => ?_) AllReadyH.nil
       (refine step_appO EPiece rfl (.tmp 68) (.tmp 71) rfl W.heap.size (.slice zp zl.length zc) zl.length (zl.flatMap PcR.cells) rfl (own_below HZO.out HB2.out) cp2 NQ cc2 (xs.flatMap PcR.cells) rfl (HXO.out _ HXP.out) hxn HXR.out (fun v hv => by obtain ⟨t, -, h⟩ := List.mem_flatMap.1 hv; exact pcr_ones t v h) (by unfold maxLen; omega) (by omega) (Nat.le_trans hbwd HB2.out.size) ?_); intro v5 w5 ho5 hg5 hs5; obtain ⟨p5, c5, rfl, -⟩ := own_shape ho5; obtain ⟨t3, t4, t5⟩ := HG4.out _ _ HB2.out hg5; have HF5 := hid (HFIN.out _ _ _ _ _ HB2.out HXP.out HXK.out ho5 hg5 hs5); clear ho5 hg5 hs5; refine hK.out _ _ trivial (fun hHeld => ?_)
       clear hK K
       try simp only [Act.put, List.setIfInBounds_toArray, List.set_cons_zero, List.set_cons_succ]
       refine wpAnyH_take (i := 13) (oi := { dst := some 73, op := Op.indexAddr 28 (Operand.tmp 61) (Operand.tmp 62), type := 0, pos := "ref.go:179", after := #[{ on := 1, ground := Ground.data }, { on := 2, ground := Ground.data }, { on := 0, ground := Ground.phase }, { on := 1, ground := Ground.phase }, { on := 2, ground := Ground.phase }, { on := 3, ground := Ground.phase }, { on := 4, ground := Ground.phase }, { on := 5, ground := Ground.phase }, { on := 6, ground := Ground.phase }, { on := 7, ground := Ground.phase }, { on := 8, ground := Ground.phase }, { on := 9, ground := Ground.phase }, { on := 10, ground := Ground.phase }, { on := 11, ground := Ground.phase }, { on := 12, ground := Ground.phase }], guard := none }) (v := ?peabaav13) rfl (by kernel_rfl) (by kernel_rfl) (by kernel_rfl) (fun _ _ _ h => h) (Or.inl ⟨by rfl, ?peabaah13⟩) (by assumption) ?peabaar13
       case peabaah13 => ((intro w hSw; (try dsimp only at hSw); go_simp); try with_reducible rfl)
       try simp only [Act.put, List.setIfInBounds_toArray, List.set_cons_zero, List.set_cons_succ]
       refine wpAnyH_take (i := 14) (oi := { dst := some 74, op := Op.fieldAddr 50 (Operand.tmp 73) 3, type := 0, pos := "ref.go:179", after := #[{ on := 13, ground := Ground.data }, { on := 0, ground := Ground.phase }, { on := 1, ground := Ground.phase }, { on := 2, ground := Ground.phase }, { on := 3, ground := Ground.phase }, { on := 4, ground := Ground.phase }, { on := 5, ground := Ground.phase }, { on := 6, ground := Ground.phase }, { on := 7, ground := Ground.phase }, { on := 8, ground := Ground.phase }, { on := 9, ground := Ground.phase }, { on := 10, ground := Ground.phase }, { on := 11, ground := Ground.phase }, { on := 12, ground := Ground.phase }], guard := none }) (v := ?peabaav14) rfl (by kernel_rfl) (by kernel_rfl) (by kernel_rfl) (fun _ _ _ h => h) (Or.inl ⟨by rfl, ?peabaah14⟩) (by assumption) ?peabaar14
       case peabaah14 => ((intro w hSw; (try dsimp only at hSw); go_simp); try with_reducible rfl)
       try simp only [Act.put, List.setIfInBounds_toArray, List.set_cons_zero, List.set_cons_succ]
       refine wpAnyH_ready (rs := [15]) (by kernel_rfl) (by simp) ?_
       refine AllReadyH.cons (o := { dst := none, op := Op.store 48 (Operand.tmp 74) (Operand.tmp 72), type := 0, pos := "ref.go:179", after := #[{ on := 14, ground := Ground.data }, { on := 12, ground := Ground.data }, { on := 12, ground := Ground.chain }, { on := 0, ground := Ground.phase }, { on := 1, ground := Ground.phase }, { on := 2, ground := Ground.phase }, { on := 3, ground := Ground.phase }, { on := 4, ground := Ground.phase }, { on := 5, ground := Ground.phase }, { on := 6, ground := Ground.phase }, { on := 7, ground := Ground.phase }, { on := 8, ground := Ground.phase }, { on := 9, ground := Ground.phase }, { on := 10, ground := Ground.phase }, { on := 11, ground := Ground.phase }, { on := 12, ground := Ground.phase }], guard := none }) rfl (fun K hK => ?_) AllReadyH.nil
       go_simp; refine hK.out _ _ trivial (fun hHeld => ?_)
       clear hK K
       try simp only [Act.put, List.setIfInBounds_toArray, List.set_cons_zero, List.set_cons_succ]
       refine wpAnyH_done (by kernel_rfl) ?_ _
       go_wp2_with fail
       obtain ⟨X5, h5⟩ := HF5.out
       exact ⟨⟨j + 1, by omega, by go_num, X5, _, _, h5⟩, by simp [intOf]; omega⟩
      refine AllReadyH.cons (o := { dst := some 71, op := Op.call { callee := Callee.value (Operand.func 51), args := #[Operand.tmp 70], argTypes := #[48] }, type := 48, pos := "ref.go:179", after := #[{ on := 10, ground := Ground.data }], guard := none }) rfl (fun K hK => ?_) AllReadyH.nil
      go_simp; go_at_call 51; (with_reducible refine HCP.out.mono ?_); rintro e w2 ⟨⟨v, xs, rfl, hxo, hxp, hxk⟩, hb2⟩; rw [← HNQ.out] at hxo; obtain ⟨cp2, cc2, rfl, hxr, hxn⟩ := own_sh hxo; have ob2 := (hb2.cell (p := ⟨w0.heap.size, 0, none⟩) hg4l).trans ob0; have hg2 := (hb2.cell (p := ⟨g4, i * 4 + 3, none⟩) hgl).trans hg3; have HB2 := hid hb2; have HXP := hid hxp; have HXK := hid hxk; have HXR := hid hxr; clear hxo hb2 hxp hxk hxr; refine hK.out _ _ trivial (fun hHeld => ?_)
      clear hK K
      try simp only [Act.put, List.setIfInBounds_toArray, List.set_cons_zero, List.set_cons_succ]
      refine wpAnyH_ready (rs := [8]) (by kernel_rfl) (by simp) ?_
      refine AllReadyH.cons (o := { dst := some 68, op := Op.load 48 (Operand.tmp 67), type := 48, pos := "ref.go:179", after := #[{ on := 7, ground := Ground.data }], guard := none }) rfl (fun K hK => ?_) AllReadyH.nil
      go_simp; refine hK.out _ _ trivial (fun hHeld => ?_)
      clear hK K
      try simp only [Act.put, List.setIfInBounds_toArray, List.set_cons_zero, List.set_cons_succ]
      refine wpAnyH_ready (rs := [12]) (by kernel_rfl) (by simp) ?_
      refine AllReadyH.cons (o := { dst := some 72, op := Op.call { callee := Callee.builtin Builtin.append, args := #[Operand.tmp 68, Operand.tmp 71], argTypes := #[48, 48] }, type := 48, pos := "ref.go:179", after := #[{ on := 8, ground := Ground.data }, { on := 11, ground := Ground.data }, { on := 11, ground := Ground.chain }], guard := none }) rfl (fun K hK => ?_) AllReadyH.nil
      (refine step_appO EPiece rfl (.tmp 68) (.tmp 71) rfl W.heap.size (.slice zp zl.length zc) zl.length (zl.flatMap PcR.cells) rfl (own_below HZO.out HB2.out) cp2 NQ cc2 (xs.flatMap PcR.cells) rfl (HXO.out _ HXP.out) hxn HXR.out (fun v hv => by obtain ⟨t, -, h⟩ := List.mem_flatMap.1 hv; exact pcr_ones t v h) (by unfold maxLen; omega) (by omega) (Nat.le_trans hbwd HB2.out.size) ?_); intro v5 w5 ho5 hg5 hs5; obtain ⟨p5, c5, rfl, -⟩ := own_shape ho5; obtain ⟨t3, t4, t5⟩ := HG4.out _ _ HB2.out hg5; have HF5 := hid (HFIN.out _ _ _ _ _ HB2.out HXP.out HXK.out ho5 hg5 hs5); clear ho5 hg5 hs5; refine hK.out _ _ trivial (fun hHeld => ?_)
      clear hK K
      try simp only [Act.put, List.setIfInBounds_toArray, List.set_cons_zero, List.set_cons_succ]
      refine wpAnyH_take (i := 13) (oi := { dst := some 73, op := Op.indexAddr 28 (Operand.tmp 61) (Operand.tmp 62), type := 0, pos := "ref.go:179", after := #[{ on := 1, ground := Ground.data }, { on := 2, ground := Ground.data }, { on := 0, ground := Ground.phase }, { on := 1, ground := Ground.phase }, { on := 2, ground := Ground.phase }, { on := 3, ground := Ground.phase }, { on := 4, ground := Ground.phase }, { on := 5, ground := Ground.phase }, { on := 6, ground := Ground.phase }, { on := 7, ground := Ground.phase }, { on := 8, ground := Ground.phase }, { on := 9, ground := Ground.phase }, { on := 10, ground := Ground.phase }, { on := 11, ground := Ground.phase }, { on := 12, ground := Ground.phase }], guard := none }) (v := ?peababv13) rfl (by kernel_rfl) (by kernel_rfl) (by kernel_rfl) (fun _ _ _ h => h) (Or.inl ⟨by rfl, ?peababh13⟩) (by assumption) ?peababr13
      case peababh13 => ((intro w hSw; (try dsimp only at hSw); go_simp); try with_reducible rfl)
      try simp only [Act.put, List.setIfInBounds_toArray, List.set_cons_zero, List.set_cons_succ]
      refine wpAnyH_take (i := 14) (oi := { dst := some 74, op := Op.fieldAddr 50 (Operand.tmp 73) 3, type := 0, pos := "ref.go:179", after := #[{ on := 13, ground := Ground.data }, { on := 0, ground := Ground.phase }, { on := 1, ground := Ground.phase }, { on := 2, ground := Ground.phase }, { on := 3, ground := Ground.phase }, { on := 4, ground := Ground.phase }, { on := 5, ground := Ground.phase }, { on := 6, ground := Ground.phase }, { on := 7, ground := Ground.phase }, { on := 8, ground := Ground.phase }, { on := 9, ground := Ground.phase }, { on := 10, ground := Ground.phase }, { on := 11, ground := Ground.phase }, { on := 12, ground := Ground.phase }], guard := none }) (v := ?peababv14) rfl (by kernel_rfl) (by kernel_rfl) (by kernel_rfl) (fun _ _ _ h => h) (Or.inl ⟨by rfl, ?peababh14⟩) (by assumption) ?peababr14
      case peababh14 => ((intro w hSw; (try dsimp only at hSw); go_simp); try with_reducible rfl)
      try simp only [Act.put, List.setIfInBounds_toArray, List.set_cons_zero, List.set_cons_succ]
      refine wpAnyH_ready (rs := [15]) (by kernel_rfl) (by simp) ?_
      refine AllReadyH.cons (o := { dst := none, op := Op.store 48 (Operand.tmp 74) (Operand.tmp 72), type := 0, pos := "ref.go:179", after := #[{ on := 14, ground := Ground.data }, { on := 12, ground := Ground.data }, { on := 12, ground := Ground.chain }, { on := 0, ground := Ground.phase }, { on := 1, ground := Ground.phase }, { on := 2, ground := Ground.phase }, { on := 3, ground := Ground.phase }, { on := 4, ground := Ground.phase }, { on := 5, ground := Ground.phase }, { on := 6, ground := Ground.phase }, { on := 7, ground := Ground.phase }, { on := 8, ground := Ground.phase }, { on := 9, ground := Ground.phase }, { on := 10, ground := Ground.phase }, { on := 11, ground := Ground.phase }, { on := 12, ground := Ground.phase }], guard := none }) rfl (fun K hK => ?_) AllReadyH.nil
      go_simp; refine hK.out _ _ trivial (fun hHeld => ?_)
      clear hK K
      try simp only [Act.put, List.setIfInBounds_toArray, List.set_cons_zero, List.set_cons_succ]
      refine wpAnyH_done (by kernel_rfl) ?_ _
      go_wp2_with fail
      obtain ⟨X5, h5⟩ := HF5.out
      exact ⟨⟨j + 1, by omega, by go_num, X5, _, _, h5⟩, by simp [intOf]; omega⟩
     refine AllReadyH.cons (o := { dst := some 71, op := Op.call { callee := Callee.value (Operand.func 51), args := #[Operand.tmp 70], argTypes := #[48] }, type := 48, pos := "ref.go:179", after := #[{ on := 10, ground := Ground.data }], guard := none }) rfl (fun K hK => ?_) AllReadyH.nil
     go_simp; go_at_call 51; (with_reducible refine HCP.out.mono ?_); rintro e w2 ⟨⟨v, xs, rfl, hxo, hxp, hxk⟩, hb2⟩; rw [← HNQ.out] at hxo; obtain ⟨cp2, cc2, rfl, hxr, hxn⟩ := own_sh hxo; have ob2 := (hb2.cell (p := ⟨w0.heap.size, 0, none⟩) hg4l).trans ob0; have hg2 := (hb2.cell (p := ⟨g4, i * 4 + 3, none⟩) hgl).trans hg3; have HB2 := hid hb2; have HXP := hid hxp; have HXK := hid hxk; have HXR := hid hxr; clear hxo hb2 hxp hxk hxr; refine hK.out _ _ trivial (fun hHeld => ?_)
     clear hK K
     try simp only [Act.put, List.setIfInBounds_toArray, List.set_cons_zero, List.set_cons_succ]
     refine wpAnyH_ready (rs := [4]) (by kernel_rfl) (by simp) ?_
     refine AllReadyH.cons (o := { dst := some 64, op := Op.load 28 (Operand.tmp 63), type := 28, pos := "ref.go:179", after := #[{ on := 3, ground := Ground.data }], guard := none }) rfl (fun K hK => ?_) AllReadyH.nil
     go_simp; refine hK.out _ _ trivial (fun hHeld => ?_)
     clear hK K
     try simp only [Act.put, List.setIfInBounds_toArray, List.set_cons_zero, List.set_cons_succ]
     refine wpAnyH_take (i := 6) (oi := { dst := some 66, op := Op.indexAddr 28 (Operand.tmp 64) (Operand.tmp 65), type := 0, pos := "ref.go:179", after := #[{ on := 4, ground := Ground.data }, { on := 5, ground := Ground.data }], guard := none }) (v := ?peabbv6) rfl (by kernel_rfl) (by kernel_rfl) (by kernel_rfl) (fun _ _ _ h => h) (Or.inl ⟨by rfl, ?peabbh6⟩) (by assumption) ?peabbr6
     case peabbh6 => ((intro w hSw; (try dsimp only at hSw); go_simp); try with_reducible rfl)
     try simp only [Act.put, List.setIfInBounds_toArray, List.set_cons_zero, List.set_cons_succ]
     refine wpAnyH_take (i := 7) (oi := { dst := some 67, op := Op.fieldAddr 50 (Operand.tmp 66) 3, type := 0, pos := "ref.go:179", after := #[{ on := 6, ground := Ground.data }], guard := none }) (v := ?peabbv7) rfl (by kernel_rfl) (by kernel_rfl) (by kernel_rfl) (fun _ _ _ h => h) (Or.inl ⟨by rfl, ?peabbh7⟩) (by assumption) ?peabbr7
     case peabbh7 => ((intro w hSw; (try dsimp only at hSw); go_simp); try with_reducible rfl)
     try simp only [Act.put, List.setIfInBounds_toArray, List.set_cons_zero, List.set_cons_succ]
     refine wpAnyH_ready (rs := [8]) (by kernel_rfl) (by simp) ?_
     refine AllReadyH.cons (o := { dst := some 68, op := Op.load 48 (Operand.tmp 67), type := 48, pos := "ref.go:179", after := #[{ on := 7, ground := Ground.data }], guard := none }) rfl (fun K hK => ?_) AllReadyH.nil
     go_simp; refine hK.out _ _ trivial (fun hHeld => ?_)
     clear hK K
     try simp only [Act.put, List.setIfInBounds_toArray, List.set_cons_zero, List.set_cons_succ]
     refine wpAnyH_ready (rs := [12]) (by kernel_rfl) (by simp) ?_
     refine AllReadyH.cons (o := { dst := some 72, op := Op.call { callee := Callee.builtin Builtin.append, args := #[Operand.tmp 68, Operand.tmp 71], argTypes := #[48, 48] }, type := 48, pos := "ref.go:179", after := #[{ on := 8, ground := Ground.data }, { on := 11, ground := Ground.data }, { on := 11, ground := Ground.chain }], guard := none }) rfl (fun K hK => ?_) AllReadyH.nil
     (refine step_appO EPiece rfl (.tmp 68) (.tmp 71) rfl W.heap.size (.slice zp zl.length zc) zl.length (zl.flatMap PcR.cells) rfl (own_below HZO.out HB2.out) cp2 NQ cc2 (xs.flatMap PcR.cells) rfl (HXO.out _ HXP.out) hxn HXR.out (fun v hv => by obtain ⟨t, -, h⟩ := List.mem_flatMap.1 hv; exact pcr_ones t v h) (by unfold maxLen; omega) (by omega) (Nat.le_trans hbwd HB2.out.size) ?_); intro v5 w5 ho5 hg5 hs5; obtain ⟨p5, c5, rfl, -⟩ := own_shape ho5; obtain ⟨t3, t4, t5⟩ := HG4.out _ _ HB2.out hg5; have HF5 := hid (HFIN.out _ _ _ _ _ HB2.out HXP.out HXK.out ho5 hg5 hs5); clear ho5 hg5 hs5; refine hK.out _ _ trivial (fun hHeld => ?_)
     clear hK K
     try simp only [Act.put, List.setIfInBounds_toArray, List.set_cons_zero, List.set_cons_succ]
     refine wpAnyH_take (i := 13) (oi := { dst := some 73, op := Op.indexAddr 28 (Operand.tmp 61) (Operand.tmp 62), type := 0, pos := "ref.go:179", after := #[{ on := 1, ground := Ground.data }, { on := 2, ground := Ground.data }, { on := 0, ground := Ground.phase }, { on := 1, ground := Ground.phase }, { on := 2, ground := Ground.phase }, { on := 3, ground := Ground.phase }, { on := 4, ground := Ground.phase }, { on := 5, ground := Ground.phase }, { on := 6, ground := Ground.phase }, { on := 7, ground := Ground.phase }, { on := 8, ground := Ground.phase }, { on := 9, ground := Ground.phase }, { on := 10, ground := Ground.phase }, { on := 11, ground := Ground.phase }, { on := 12, ground := Ground.phase }], guard := none }) (v := ?peabbv13) rfl (by kernel_rfl) (by kernel_rfl) (by kernel_rfl) (fun _ _ _ h => h) (Or.inl ⟨by rfl, ?peabbh13⟩) (by assumption) ?peabbr13
     case peabbh13 => ((intro w hSw; (try dsimp only at hSw); go_simp); try with_reducible rfl)
     try simp only [Act.put, List.setIfInBounds_toArray, List.set_cons_zero, List.set_cons_succ]
     refine wpAnyH_take (i := 14) (oi := { dst := some 74, op := Op.fieldAddr 50 (Operand.tmp 73) 3, type := 0, pos := "ref.go:179", after := #[{ on := 13, ground := Ground.data }, { on := 0, ground := Ground.phase }, { on := 1, ground := Ground.phase }, { on := 2, ground := Ground.phase }, { on := 3, ground := Ground.phase }, { on := 4, ground := Ground.phase }, { on := 5, ground := Ground.phase }, { on := 6, ground := Ground.phase }, { on := 7, ground := Ground.phase }, { on := 8, ground := Ground.phase }, { on := 9, ground := Ground.phase }, { on := 10, ground := Ground.phase }, { on := 11, ground := Ground.phase }, { on := 12, ground := Ground.phase }], guard := none }) (v := ?peabbv14) rfl (by kernel_rfl) (by kernel_rfl) (by kernel_rfl) (fun _ _ _ h => h) (Or.inl ⟨by rfl, ?peabbh14⟩) (by assumption) ?peabbr14
     case peabbh14 => ((intro w hSw; (try dsimp only at hSw); go_simp); try with_reducible rfl)
     try simp only [Act.put, List.setIfInBounds_toArray, List.set_cons_zero, List.set_cons_succ]
     refine wpAnyH_ready (rs := [15]) (by kernel_rfl) (by simp) ?_
     refine AllReadyH.cons (o := { dst := none, op := Op.store 48 (Operand.tmp 74) (Operand.tmp 72), type := 0, pos := "ref.go:179", after := #[{ on := 14, ground := Ground.data }, { on := 12, ground := Ground.data }, { on := 12, ground := Ground.chain }, { on := 0, ground := Ground.phase }, { on := 1, ground := Ground.phase }, { on := 2, ground := Ground.phase }, { on := 3, ground := Ground.phase }, { on := 4, ground := Ground.phase }, { on := 5, ground := Ground.phase }, { on := 6, ground := Ground.phase }, { on := 7, ground := Ground.phase }, { on := 8, ground := Ground.phase }, { on := 9, ground := Ground.phase }, { on := 10, ground := Ground.phase }, { on := 11, ground := Ground.phase }, { on := 12, ground := Ground.phase }], guard := none }) rfl (fun K hK => ?_) AllReadyH.nil
     go_simp; refine hK.out _ _ trivial (fun hHeld => ?_)
     clear hK K
     try simp only [Act.put, List.setIfInBounds_toArray, List.set_cons_zero, List.set_cons_succ]
     refine wpAnyH_done (by kernel_rfl) ?_ _
     go_wp2_with fail
     obtain ⟨X5, h5⟩ := HF5.out
     exact ⟨⟨j + 1, by omega, by go_num, X5, _, _, h5⟩, by simp [intOf]; omega⟩
    refine AllReadyH.cons (o := { dst := some 64, op := Op.load 28 (Operand.tmp 63), type := 28, pos := "ref.go:179", after := #[{ on := 3, ground := Ground.data }], guard := none }) rfl (fun K hK => ?_) ?_
    ·go_simp; refine hK.out _ _ trivial (fun hHeld => ?_)
     clear hK K
     try simp only [Act.put, List.setIfInBounds_toArray, List.set_cons_zero, List.set_cons_succ]
     refine wpAnyH_take (i := 6) (oi := { dst := some 66, op := Op.indexAddr 28 (Operand.tmp 64) (Operand.tmp 65), type := 0, pos := "ref.go:179", after := #[{ on := 4, ground := Ground.data }, { on := 5, ground := Ground.data }], guard := none }) (v := ?pebv6) rfl (by kernel_rfl) (by kernel_rfl) (by kernel_rfl) (fun _ _ _ h => h) (Or.inl ⟨by rfl, ?pebh6⟩) (by assumption) ?pebr6
     case pebh6 => ((intro w hSw; (try dsimp only at hSw); go_simp); try with_reducible rfl)
     try simp only [Act.put, List.setIfInBounds_toArray, List.set_cons_zero, List.set_cons_succ]
     refine wpAnyH_take (i := 7) (oi := { dst := some 67, op := Op.fieldAddr 50 (Operand.tmp 66) 3, type := 0, pos := "ref.go:179", after := #[{ on := 6, ground := Ground.data }], guard := none }) (v := ?pebv7) rfl (by kernel_rfl) (by kernel_rfl) (by kernel_rfl) (fun _ _ _ h => h) (Or.inl ⟨by rfl, ?pebh7⟩) (by assumption) ?pebr7
     case pebh7 => ((intro w hSw; (try dsimp only at hSw); go_simp); try with_reducible rfl)
     try simp only [Act.put, List.setIfInBounds_toArray, List.set_cons_zero, List.set_cons_succ]
     refine wpAnyH_ready (rs := [1, 8, 10]) (by kernel_rfl) (by simp) ?_
     refine AllReadyH.cons (o := { dst := some 61, op := Op.load 28 (Operand.tmp 60), type := 28, pos := "ref.go:179", after := #[{ on := 0, ground := Ground.data }], guard := none }) rfl (fun K hK => ?_) ?_
     ·go_simp; refine hK.out _ _ trivial (fun hHeld => ?_)
      clear hK K
      try simp only [Act.put, List.setIfInBounds_toArray, List.set_cons_zero, List.set_cons_succ]
      refine wpAnyH_ready (rs := [8, 10]) (by kernel_rfl) (by simp) ?_
      refine AllReadyH.cons (o := { dst := some 68, op := Op.load 48 (Operand.tmp 67), type := 48, pos := "ref.go:179", after := #[{ on := 7, ground := Ground.data }], guard := none }) rfl (fun K hK => ?_) ?_
      ·go_simp; refine hK.out _ _ trivial (fun hHeld => ?_)
       clear hK K
       try simp only [Act.put, List.setIfInBounds_toArray, List.set_cons_zero, List.set_cons_succ]
       refine wpAnyH_ready (rs := [10]) (by kernel_rfl) (by simp) ?_
       refine AllReadyH.cons (o := { dst := some 70, op := Op.load 48 (Operand.tmp 69), type := 48, pos := "ref.go:179", after := #[{ on := 9, ground := Ground.data }], guard := none }) rfl (fun K hK => ?_) AllReadyH.nil
       go_simp; refine hK.out _ _ trivial (fun hHeld => ?_)
       clear hK K
       try simp only [Act.put, List.setIfInBounds_toArray, List.set_cons_zero, List.set_cons_succ]
       refine wpAnyH_ready (rs := [11]) (by kernel_rfl) (by simp) ?_
       refine AllReadyH.cons (o := { dst := some 71, op := Op.call { callee := Callee.value (Operand.func 51), args := #[Operand.tmp 70], argTypes := #[48] }, type := 48, pos := "ref.go:179", after := #[{ on := 10, ground := Ground.data }], guard := none }) rfl (fun K hK => ?_) AllReadyH.nil
       go_simp; go_at_call 51; (with_reducible refine HCP.out.mono ?_); rintro e w2 ⟨⟨v, xs, rfl, hxo, hxp, hxk⟩, hb2⟩; rw [← HNQ.out] at hxo; obtain ⟨cp2, cc2, rfl, hxr, hxn⟩ := own_sh hxo; have ob2 := (hb2.cell (p := ⟨w0.heap.size, 0, none⟩) hg4l).trans ob0; have hg2 := (hb2.cell (p := ⟨g4, i * 4 + 3, none⟩) hgl).trans hg3; have HB2 := hid hb2; have HXP := hid hxp; have HXK := hid hxk; have HXR := hid hxr; clear hxo hb2 hxp hxk hxr; refine hK.out _ _ trivial (fun hHeld => ?_)
       clear hK K
       try simp only [Act.put, List.setIfInBounds_toArray, List.set_cons_zero, List.set_cons_succ]
       refine wpAnyH_ready (rs := [12]) (by kernel_rfl) (by simp) ?_
       refine AllReadyH.cons (o := { dst := some 72, op := Op.call { callee := Callee.builtin Builtin.append, args := #[Operand.tmp 68, Operand.tmp 71], argTypes := #[48, 48] }, type := 48, pos := "ref.go:179", after := #[{ on := 8, ground := Ground.data }, { on := 11, ground := Ground.data }, { on := 11, ground := Ground.chain }], guard := none }) rfl (fun K hK => ?_) AllReadyH.nil
       (refine step_appO EPiece rfl (.tmp 68) (.tmp 71) rfl W.heap.size (.slice zp zl.length zc) zl.length (zl.flatMap PcR.cells) rfl (own_below HZO.out HB2.out) cp2 NQ cc2 (xs.flatMap PcR.cells) rfl (HXO.out _ HXP.out) hxn HXR.out (fun v hv => by obtain ⟨t, -, h⟩ := List.mem_flatMap.1 hv; exact pcr_ones t v h) (by unfold maxLen; omega) (by omega) (Nat.le_trans hbwd HB2.out.size) ?_); intro v5 w5 ho5 hg5 hs5; obtain ⟨p5, c5, rfl, -⟩ := own_shape ho5; obtain ⟨t3, t4, t5⟩ := HG4.out _ _ HB2.out hg5; have HF5 := hid (HFIN.out _ _ _ _ _ HB2.out HXP.out HXK.out ho5 hg5 hs5); clear ho5 hg5 hs5; refine hK.out _ _ trivial (fun hHeld => ?_)
       clear hK K
       try simp only [Act.put, List.setIfInBounds_toArray, List.set_cons_zero, List.set_cons_succ]
       refine wpAnyH_take (i := 13) (oi := { dst := some 73, op := Op.indexAddr 28 (Operand.tmp 61) (Operand.tmp 62), type := 0, pos := "ref.go:179", after := #[{ on := 1, ground := Ground.data }, { on := 2, ground := Ground.data }, { on := 0, ground := Ground.phase }, { on := 1, ground := Ground.phase }, { on := 2, ground := Ground.phase }, { on := 3, ground := Ground.phase }, { on := 4, ground := Ground.phase }, { on := 5, ground := Ground.phase }, { on := 6, ground := Ground.phase }, { on := 7, ground := Ground.phase }, { on := 8, ground := Ground.phase }, { on := 9, ground := Ground.phase }, { on := 10, ground := Ground.phase }, { on := 11, ground := Ground.phase }, { on := 12, ground := Ground.phase }], guard := none }) (v := ?pebaav13) rfl (by kernel_rfl) (by kernel_rfl) (by kernel_rfl) (fun _ _ _ h => h) (Or.inl ⟨by rfl, ?pebaah13⟩) (by assumption) ?pebaar13
       case pebaah13 => ((intro w hSw; (try dsimp only at hSw); go_simp); try with_reducible rfl)
       try simp only [Act.put, List.setIfInBounds_toArray, List.set_cons_zero, List.set_cons_succ]
       refine wpAnyH_take (i := 14) (oi := { dst := some 74, op := Op.fieldAddr 50 (Operand.tmp 73) 3, type := 0, pos := "ref.go:179", after := #[{ on := 13, ground := Ground.data }, { on := 0, ground := Ground.phase }, { on := 1, ground := Ground.phase }, { on := 2, ground := Ground.phase }, { on := 3, ground := Ground.phase }, { on := 4, ground := Ground.phase }, { on := 5, ground := Ground.phase }, { on := 6, ground := Ground.phase }, { on := 7, ground := Ground.phase }, { on := 8, ground := Ground.phase }, { on := 9, ground := Ground.phase }, { on := 10, ground := Ground.phase }, { on := 11, ground := Ground.phase }, { on := 12, ground := Ground.phase }], guard := none }) (v := ?pebaav14) rfl (by kernel_rfl) (by kernel_rfl) (by kernel_rfl) (fun _ _ _ h => h) (Or.inl ⟨by rfl, ?pebaah14⟩) (by assumption) ?pebaar14
       case pebaah14 => ((intro w hSw; (try dsimp only at hSw); go_simp); try with_reducible rfl)
       try simp only [Act.put, List.setIfInBounds_toArray, List.set_cons_zero, List.set_cons_succ]
       refine wpAnyH_ready (rs := [15]) (by kernel_rfl) (by simp) ?_
       refine AllReadyH.cons (o := { dst := none, op := Op.store 48 (Operand.tmp 74) (Operand.tmp 72), type := 0, pos := "ref.go:179", after := #[{ on := 14, ground := Ground.data }, { on := 12, ground := Ground.data }, { on := 12, ground := Ground.chain }, { on := 0, ground := Ground.phase }, { on := 1, ground := Ground.phase }, { on := 2, ground := Ground.phase }, { on := 3, ground := Ground.phase }, { on := 4, ground := Ground.phase }, { on := 5, ground := Ground.phase }, { on := 6, ground := Ground.phase }, { on := 7, ground := Ground.phase }, { on := 8, ground := Ground.phase }, { on := 9, ground := Ground.phase }, { on := 10, ground := Ground.phase }, { on := 11, ground := Ground.phase }, { on := 12, ground := Ground.phase }], guard := none }) rfl (fun K hK => ?_) AllReadyH.nil
       go_simp; refine hK.out _ _ trivial (fun hHeld => ?_)
       clear hK K
       try simp only [Act.put, List.setIfInBounds_toArray, List.set_cons_zero, List.set_cons_succ]
       refine wpAnyH_done (by kernel_rfl) ?_ _
       go_wp2_with fail
       obtain ⟨X5, h5⟩ := HF5.out
       exact ⟨⟨j + 1, by omega, by go_num, X5, _, _, h5⟩, by simp [intOf]; omega⟩
      refine AllReadyH.cons (o := { dst := some 70, op := Op.load 48 (Operand.tmp 69), type := 48, pos := "ref.go:179", after := #[{ on := 9, ground := Ground.data }], guard := none }) rfl (fun K hK => ?_) AllReadyH.nil
      go_simp; refine hK.out _ _ trivial (fun hHeld => ?_)
      clear hK K
      try simp only [Act.put, List.setIfInBounds_toArray, List.set_cons_zero, List.set_cons_succ]
      refine wpAnyH_ready (rs := [8, 11]) (by kernel_rfl) (by simp) ?_
      refine AllReadyH.cons (o := { dst := some 68, op := Op.load 48 (Operand.tmp 67), type := 48, pos := "ref.go:179", after := #[{ on := 7, ground := Ground.data }], guard := none }) rfl (fun K hK => ?_) ?_
      ·go_simp; refine hK.out _ _ trivial (fun hHeld => ?_)
       clear hK K
       try simp only [Act.put, List.setIfInBounds_toArray, List.set_cons_zero, List.set_cons_succ]
       refine wpAnyH_ready (rs := [11]) (by kernel_rfl) (by simp) ?_
       refine AllReadyH.cons (o := { dst := some 71, op := Op.call { callee := Callee.value (Operand.func 51), args := #[Operand.tmp 70], argTypes := #[48] }, type := 48, pos := "ref.go:179", after := #[{ on := 10, ground := Ground.data }], guard := none }) rfl (fun K hK => ?_) AllReadyH.nil
       go_simp; go_at_call 51; (with_reducible refine HCP.out.mono ?_); rintro e w2 ⟨⟨v, xs, rfl, hxo, hxp, hxk⟩, hb2⟩; rw [← HNQ.out] at hxo; obtain ⟨cp2, cc2, rfl, hxr, hxn⟩ := own_sh hxo; have ob2 := (hb2.cell (p := ⟨w0.heap.size, 0, none⟩) hg4l).trans ob0; have hg2 := (hb2.cell (p := ⟨g4, i * 4 + 3, none⟩) hgl).trans hg3; have HB2 := hid hb2; have HXP := hid hxp; have HXK := hid hxk; have HXR := hid hxr; clear hxo hb2 hxp hxk hxr; refine hK.out _ _ trivial (fun hHeld => ?_)
       clear hK K
       try simp only [Act.put, List.setIfInBounds_toArray, List.set_cons_zero, List.set_cons_succ]
       refine wpAnyH_ready (rs := [12]) (by kernel_rfl) (by simp) ?_
       refine AllReadyH.cons (o := { dst := some 72, op := Op.call { callee := Callee.builtin Builtin.append, args := #[Operand.tmp 68, Operand.tmp 71], argTypes := #[48, 48] }, type := 48, pos := "ref.go:179", after := #[{ on := 8, ground := Ground.data }, { on := 11, ground := Ground.data }, { on := 11, ground := Ground.chain }], guard := none }) rfl (fun K hK => ?_) AllReadyH.nil
       (refine step_appO EPiece rfl (.tmp 68) (.tmp 71) rfl W.heap.size (.slice zp zl.length zc) zl.length (zl.flatMap PcR.cells) rfl (own_below HZO.out HB2.out) cp2 NQ cc2 (xs.flatMap PcR.cells) rfl (HXO.out _ HXP.out) hxn HXR.out (fun v hv => by obtain ⟨t, -, h⟩ := List.mem_flatMap.1 hv; exact pcr_ones t v h) (by unfold maxLen; omega) (by omega) (Nat.le_trans hbwd HB2.out.size) ?_); intro v5 w5 ho5 hg5 hs5; obtain ⟨p5, c5, rfl, -⟩ := own_shape ho5; obtain ⟨t3, t4, t5⟩ := HG4.out _ _ HB2.out hg5; have HF5 := hid (HFIN.out _ _ _ _ _ HB2.out HXP.out HXK.out ho5 hg5 hs5); clear ho5 hg5 hs5; refine hK.out _ _ trivial (fun hHeld => ?_)
       clear hK K
       try simp only [Act.put, List.setIfInBounds_toArray, List.set_cons_zero, List.set_cons_succ]
       refine wpAnyH_take (i := 13) (oi := { dst := some 73, op := Op.indexAddr 28 (Operand.tmp 61) (Operand.tmp 62), type := 0, pos := "ref.go:179", after := #[{ on := 1, ground := Ground.data }, { on := 2, ground := Ground.data }, { on := 0, ground := Ground.phase }, { on := 1, ground := Ground.phase }, { on := 2, ground := Ground.phase }, { on := 3, ground := Ground.phase }, { on := 4, ground := Ground.phase }, { on := 5, ground := Ground.phase }, { on := 6, ground := Ground.phase }, { on := 7, ground := Ground.phase }, { on := 8, ground := Ground.phase }, { on := 9, ground := Ground.phase }, { on := 10, ground := Ground.phase }, { on := 11, ground := Ground.phase }, { on := 12, ground := Ground.phase }], guard := none }) (v := ?pebabav13) rfl (by kernel_rfl) (by kernel_rfl) (by kernel_rfl) (fun _ _ _ h => h) (Or.inl ⟨by rfl, ?pebabah13⟩) (by assumption) ?pebabar13
       case pebabah13 => ((intro w hSw; (try dsimp only at hSw); go_simp); try with_reducible rfl)
       try simp only [Act.put, List.setIfInBounds_toArray, List.set_cons_zero, List.set_cons_succ]
       refine wpAnyH_take (i := 14) (oi := { dst := some 74, op := Op.fieldAddr 50 (Operand.tmp 73) 3, type := 0, pos := "ref.go:179", after := #[{ on := 13, ground := Ground.data }, { on := 0, ground := Ground.phase }, { on := 1, ground := Ground.phase }, { on := 2, ground := Ground.phase }, { on := 3, ground := Ground.phase }, { on := 4, ground := Ground.phase }, { on := 5, ground := Ground.phase }, { on := 6, ground := Ground.phase }, { on := 7, ground := Ground.phase }, { on := 8, ground := Ground.phase }, { on := 9, ground := Ground.phase }, { on := 10, ground := Ground.phase }, { on := 11, ground := Ground.phase }, { on := 12, ground := Ground.phase }], guard := none }) (v := ?pebabav14) rfl (by kernel_rfl) (by kernel_rfl) (by kernel_rfl) (fun _ _ _ h => h) (Or.inl ⟨by rfl, ?pebabah14⟩) (by assumption) ?pebabar14
       case pebabah14 => ((intro w hSw; (try dsimp only at hSw); go_simp); try with_reducible rfl)
       try simp only [Act.put, List.setIfInBounds_toArray, List.set_cons_zero, List.set_cons_succ]
       refine wpAnyH_ready (rs := [15]) (by kernel_rfl) (by simp) ?_
       refine AllReadyH.cons (o := { dst := none, op := Op.store 48 (Operand.tmp 74) (Operand.tmp 72), type := 0, pos := "ref.go:179", after := #[{ on := 14, ground := Ground.data }, { on := 12, ground := Ground.data }, { on := 12, ground := Ground.chain }, { on := 0, ground := Ground.phase }, { on := 1, ground := Ground.phase }, { on := 2, ground := Ground.phase }, { on := 3, ground := Ground.phase }, { on := 4, ground := Ground.phase }, { on := 5, ground := Ground.phase }, { on := 6, ground := Ground.phase }, { on := 7, ground := Ground.phase }, { on := 8, ground := Ground.phase }, { on := 9, ground := Ground.phase }, { on := 10, ground := Ground.phase }, { on := 11, ground := Ground.phase }, { on := 12, ground := Ground.phase }], guard := none }) rfl (fun K hK => ?_) AllReadyH.nil
       go_simp; refine hK.out _ _ trivial (fun hHeld => ?_)
       clear hK K
       try simp only [Act.put, List.setIfInBounds_toArray, List.set_cons_zero, List.set_cons_succ]
       refine wpAnyH_done (by kernel_rfl) ?_ _
       go_wp2_with fail
       obtain ⟨X5, h5⟩ := HF5.out
       exact ⟨⟨j + 1, by omega, by go_num, X5, _, _, h5⟩, by simp [intOf]; omega⟩
      refine AllReadyH.cons (o := { dst := some 71, op := Op.call { callee := Callee.value (Operand.func 51), args := #[Operand.tmp 70], argTypes := #[48] }, type := 48, pos := "ref.go:179", after := #[{ on := 10, ground := Ground.data }], guard := none }) rfl (fun K hK => ?_) AllReadyH.nil
      go_simp; go_at_call 51; (with_reducible refine HCP.out.mono ?_); rintro e w2 ⟨⟨v, xs, rfl, hxo, hxp, hxk⟩, hb2⟩; rw [← HNQ.out] at hxo; obtain ⟨cp2, cc2, rfl, hxr, hxn⟩ := own_sh hxo; have ob2 := (hb2.cell (p := ⟨w0.heap.size, 0, none⟩) hg4l).trans ob0; have hg2 := (hb2.cell (p := ⟨g4, i * 4 + 3, none⟩) hgl).trans hg3; have HB2 := hid hb2; have HXP := hid hxp; have HXK := hid hxk; have HXR := hid hxr; clear hxo hb2 hxp hxk hxr; refine hK.out _ _ trivial (fun hHeld => ?_)
      clear hK K
      try simp only [Act.put, List.setIfInBounds_toArray, List.set_cons_zero, List.set_cons_succ]
      refine wpAnyH_ready (rs := [8]) (by kernel_rfl) (by simp) ?_
      refine AllReadyH.cons (o := { dst := some 68, op := Op.load 48 (Operand.tmp 67), type := 48, pos := "ref.go:179", after := #[{ on := 7, ground := Ground.data }], guard := none }) rfl (fun K hK => ?_) AllReadyH.nil
      go_simp; refine hK.out _ _ trivial (fun hHeld => ?_)
      clear hK K
      try simp only [Act.put, List.setIfInBounds_toArray, List.set_cons_zero, List.set_cons_succ]
      refine wpAnyH_ready (rs := [12]) (by kernel_rfl) (by simp) ?_
      refine AllReadyH.cons (o := { dst := some 72, op := Op.call { callee := Callee.builtin Builtin.append, args := #[Operand.tmp 68, Operand.tmp 71], argTypes := #[48, 48] }, type := 48, pos := "ref.go:179", after := #[{ on := 8, ground := Ground.data }, { on := 11, ground := Ground.data }, { on := 11, ground := Ground.chain }], guard := none }) rfl (fun K hK => ?_) AllReadyH.nil
      (refine step_appO EPiece rfl (.tmp 68) (.tmp 71) rfl W.heap.size (.slice zp zl.length zc) zl.length (zl.flatMap PcR.cells) rfl (own_below HZO.out HB2.out) cp2 NQ cc2 (xs.flatMap PcR.cells) rfl (HXO.out _ HXP.out) hxn HXR.out (fun v hv => by obtain ⟨t, -, h⟩ := List.mem_flatMap.1 hv; exact pcr_ones t v h) (by unfold maxLen; omega) (by omega) (Nat.le_trans hbwd HB2.out.size) ?_); intro v5 w5 ho5 hg5 hs5; obtain ⟨p5, c5, rfl, -⟩ := own_shape ho5; obtain ⟨t3, t4, t5⟩ := HG4.out _ _ HB2.out hg5; have HF5 := hid (HFIN.out _ _ _ _ _ HB2.out HXP.out HXK.out ho5 hg5 hs5); clear ho5 hg5 hs5; refine hK.out _ _ trivial (fun hHeld => ?_)
      clear hK K
      try simp only [Act.put, List.setIfInBounds_toArray, List.set_cons_zero, List.set_cons_succ]
      refine wpAnyH_take (i := 13) (oi := { dst := some 73, op := Op.indexAddr 28 (Operand.tmp 61) (Operand.tmp 62), type := 0, pos := "ref.go:179", after := #[{ on := 1, ground := Ground.data }, { on := 2, ground := Ground.data }, { on := 0, ground := Ground.phase }, { on := 1, ground := Ground.phase }, { on := 2, ground := Ground.phase }, { on := 3, ground := Ground.phase }, { on := 4, ground := Ground.phase }, { on := 5, ground := Ground.phase }, { on := 6, ground := Ground.phase }, { on := 7, ground := Ground.phase }, { on := 8, ground := Ground.phase }, { on := 9, ground := Ground.phase }, { on := 10, ground := Ground.phase }, { on := 11, ground := Ground.phase }, { on := 12, ground := Ground.phase }], guard := none }) (v := ?pebabbv13) rfl (by kernel_rfl) (by kernel_rfl) (by kernel_rfl) (fun _ _ _ h => h) (Or.inl ⟨by rfl, ?pebabbh13⟩) (by assumption) ?pebabbr13
      case pebabbh13 => ((intro w hSw; (try dsimp only at hSw); go_simp); try with_reducible rfl)
      try simp only [Act.put, List.setIfInBounds_toArray, List.set_cons_zero, List.set_cons_succ]
      refine wpAnyH_take (i := 14) (oi := { dst := some 74, op := Op.fieldAddr 50 (Operand.tmp 73) 3, type := 0, pos := "ref.go:179", after := #[{ on := 13, ground := Ground.data }, { on := 0, ground := Ground.phase }, { on := 1, ground := Ground.phase }, { on := 2, ground := Ground.phase }, { on := 3, ground := Ground.phase }, { on := 4, ground := Ground.phase }, { on := 5, ground := Ground.phase }, { on := 6, ground := Ground.phase }, { on := 7, ground := Ground.phase }, { on := 8, ground := Ground.phase }, { on := 9, ground := Ground.phase }, { on := 10, ground := Ground.phase }, { on := 11, ground := Ground.phase }, { on := 12, ground := Ground.phase }], guard := none }) (v := ?pebabbv14) rfl (by kernel_rfl) (by kernel_rfl) (by kernel_rfl) (fun _ _ _ h => h) (Or.inl ⟨by rfl, ?pebabbh14⟩) (by assumption) ?pebabbr14
      case pebabbh14 => ((intro w hSw; (try dsimp only at hSw); go_simp); try with_reducible rfl)
      try simp only [Act.put, List.setIfInBounds_toArray, List.set_cons_zero, List.set_cons_succ]
      refine wpAnyH_ready (rs := [15]) (by kernel_rfl) (by simp) ?_
      refine AllReadyH.cons (o := { dst := none, op := Op.store 48 (Operand.tmp 74) (Operand.tmp 72), type := 0, pos := "ref.go:179", after := #[{ on := 14, ground := Ground.data }, { on := 12, ground := Ground.data }, { on := 12, ground := Ground.chain }, { on := 0, ground := Ground.phase }, { on := 1, ground := Ground.phase }, { on := 2, ground := Ground.phase }, { on := 3, ground := Ground.phase }, { on := 4, ground := Ground.phase }, { on := 5, ground := Ground.phase }, { on := 6, ground := Ground.phase }, { on := 7, ground := Ground.phase }, { on := 8, ground := Ground.phase }, { on := 9, ground := Ground.phase }, { on := 10, ground := Ground.phase }, { on := 11, ground := Ground.phase }, { on := 12, ground := Ground.phase }], guard := none }) rfl (fun K hK => ?_) AllReadyH.nil
      go_simp; refine hK.out _ _ trivial (fun hHeld => ?_)
      clear hK K
      try simp only [Act.put, List.setIfInBounds_toArray, List.set_cons_zero, List.set_cons_succ]
      refine wpAnyH_done (by kernel_rfl) ?_ _
      go_wp2_with fail
      obtain ⟨X5, h5⟩ := HF5.out
      exact ⟨⟨j + 1, by omega, by go_num, X5, _, _, h5⟩, by simp [intOf]; omega⟩
     refine AllReadyH.cons (o := { dst := some 68, op := Op.load 48 (Operand.tmp 67), type := 48, pos := "ref.go:179", after := #[{ on := 7, ground := Ground.data }], guard := none }) rfl (fun K hK => ?_) ?_
     ·go_simp; refine hK.out _ _ trivial (fun hHeld => ?_)
      clear hK K
      try simp only [Act.put, List.setIfInBounds_toArray, List.set_cons_zero, List.set_cons_succ]
      refine wpAnyH_ready (rs := [1, 10]) (by kernel_rfl) (by simp) ?_
      refine AllReadyH.cons (o := { dst := some 61, op := Op.load 28 (Operand.tmp 60), type := 28, pos := "ref.go:179", after := #[{ on := 0, ground := Ground.data }], guard := none }) rfl (fun K hK => ?_) ?_
      ·go_simp; refine hK.out _ _ trivial (fun hHeld => ?_)
       clear hK K
       try simp only [Act.put, List.setIfInBounds_toArray, List.set_cons_zero, List.set_cons_succ]
       refine wpAnyH_ready (rs := [10]) (by kernel_rfl) (by simp) ?_
       refine AllReadyH.cons (o := { dst := some 70, op := Op.load 48 (Operand.tmp 69), type := 48, pos := "ref.go:179", after := #[{ on := 9, ground := Ground.data }], guard := none }) rfl (fun K hK => ?_) AllReadyH.nil
       go_simp; refine hK.out _ _ trivial (fun hHeld => ?_)
       clear hK K
       try simp only [Act.put, List.setIfInBounds_toArray, List.set_cons_zero, List.set_cons_succ]
       refine wpAnyH_ready (rs := [11]) (by kernel_rfl) (by simp) ?_
       refine AllReadyH.cons (o := { dst := some 71, op := Op.call { callee := Callee.value (Operand.func 51), args := #[Operand.tmp 70], argTypes := #[48] }, type := 48, pos := "ref.go:179", after := #[{ on := 10, ground := Ground.data }], guard := none }) rfl (fun K hK => ?_) AllReadyH.nil
       go_simp; go_at_call 51; (with_reducible refine HCP.out.mono ?_); rintro e w2 ⟨⟨v, xs, rfl, hxo, hxp, hxk⟩, hb2⟩; rw [← HNQ.out] at hxo; obtain ⟨cp2, cc2, rfl, hxr, hxn⟩ := own_sh hxo; have ob2 := (hb2.cell (p := ⟨w0.heap.size, 0, none⟩) hg4l).trans ob0; have hg2 := (hb2.cell (p := ⟨g4, i * 4 + 3, none⟩) hgl).trans hg3; have HB2 := hid hb2; have HXP := hid hxp; have HXK := hid hxk; have HXR := hid hxr; clear hxo hb2 hxp hxk hxr; refine hK.out _ _ trivial (fun hHeld => ?_)
       clear hK K
       try simp only [Act.put, List.setIfInBounds_toArray, List.set_cons_zero, List.set_cons_succ]
       refine wpAnyH_ready (rs := [12]) (by kernel_rfl) (by simp) ?_
       refine AllReadyH.cons (o := { dst := some 72, op := Op.call { callee := Callee.builtin Builtin.append, args := #[Operand.tmp 68, Operand.tmp 71], argTypes := #[48, 48] }, type := 48, pos := "ref.go:179", after := #[{ on := 8, ground := Ground.data }, { on := 11, ground := Ground.data }, { on := 11, ground := Ground.chain }], guard := none }) rfl (fun K hK => ?_) AllReadyH.nil
       (refine step_appO EPiece rfl (.tmp 68) (.tmp 71) rfl W.heap.size (.slice zp zl.length zc) zl.length (zl.flatMap PcR.cells) rfl (own_below HZO.out HB2.out) cp2 NQ cc2 (xs.flatMap PcR.cells) rfl (HXO.out _ HXP.out) hxn HXR.out (fun v hv => by obtain ⟨t, -, h⟩ := List.mem_flatMap.1 hv; exact pcr_ones t v h) (by unfold maxLen; omega) (by omega) (Nat.le_trans hbwd HB2.out.size) ?_); intro v5 w5 ho5 hg5 hs5; obtain ⟨p5, c5, rfl, -⟩ := own_shape ho5; obtain ⟨t3, t4, t5⟩ := HG4.out _ _ HB2.out hg5; have HF5 := hid (HFIN.out _ _ _ _ _ HB2.out HXP.out HXK.out ho5 hg5 hs5); clear ho5 hg5 hs5; refine hK.out _ _ trivial (fun hHeld => ?_)
       clear hK K
       try simp only [Act.put, List.setIfInBounds_toArray, List.set_cons_zero, List.set_cons_succ]
       refine wpAnyH_take (i := 13) (oi := { dst := some 73, op := Op.indexAddr 28 (Operand.tmp 61) (Operand.tmp 62), type := 0, pos := "ref.go:179", after := #[{ on := 1, ground := Ground.data }, { on := 2, ground := Ground.data }, { on := 0, ground := Ground.phase }, { on := 1, ground := Ground.phase }, { on := 2, ground := Ground.phase }, { on := 3, ground := Ground.phase }, { on := 4, ground := Ground.phase }, { on := 5, ground := Ground.phase }, { on := 6, ground := Ground.phase }, { on := 7, ground := Ground.phase }, { on := 8, ground := Ground.phase }, { on := 9, ground := Ground.phase }, { on := 10, ground := Ground.phase }, { on := 11, ground := Ground.phase }, { on := 12, ground := Ground.phase }], guard := none }) (v := ?pebbav13) rfl (by kernel_rfl) (by kernel_rfl) (by kernel_rfl) (fun _ _ _ h => h) (Or.inl ⟨by rfl, ?pebbah13⟩) (by assumption) ?pebbar13
       case pebbah13 => ((intro w hSw; (try dsimp only at hSw); go_simp); try with_reducible rfl)
       try simp only [Act.put, List.setIfInBounds_toArray, List.set_cons_zero, List.set_cons_succ]
       refine wpAnyH_take (i := 14) (oi := { dst := some 74, op := Op.fieldAddr 50 (Operand.tmp 73) 3, type := 0, pos := "ref.go:179", after := #[{ on := 13, ground := Ground.data }, { on := 0, ground := Ground.phase }, { on := 1, ground := Ground.phase }, { on := 2, ground := Ground.phase }, { on := 3, ground := Ground.phase }, { on := 4, ground := Ground.phase }, { on := 5, ground := Ground.phase }, { on := 6, ground := Ground.phase }, { on := 7, ground := Ground.phase }, { on := 8, ground := Ground.phase }, { on := 9, ground := Ground.phase }, { on := 10, ground := Ground.phase }, { on := 11, ground := Ground.phase }, { on := 12, ground := Ground.phase }], guard := none }) (v := ?pebbav14) rfl (by kernel_rfl) (by kernel_rfl) (by kernel_rfl) (fun _ _ _ h => h) (Or.inl ⟨by rfl, ?pebbah14⟩) (by assumption) ?pebbar14
       case pebbah14 => ((intro w hSw; (try dsimp only at hSw); go_simp); try with_reducible rfl)
       try simp only [Act.put, List.setIfInBounds_toArray, List.set_cons_zero, List.set_cons_succ]
       refine wpAnyH_ready (rs := [15]) (by kernel_rfl) (by simp) ?_
       refine AllReadyH.cons (o := { dst := none, op := Op.store 48 (Operand.tmp 74) (Operand.tmp 72), type := 0, pos := "ref.go:179", after := #[{ on := 14, ground := Ground.data }, { on := 12, ground := Ground.data }, { on := 12, ground := Ground.chain }, { on := 0, ground := Ground.phase }, { on := 1, ground := Ground.phase }, { on := 2, ground := Ground.phase }, { on := 3, ground := Ground.phase }, { on := 4, ground := Ground.phase }, { on := 5, ground := Ground.phase }, { on := 6, ground := Ground.phase }, { on := 7, ground := Ground.phase }, { on := 8, ground := Ground.phase }, { on := 9, ground := Ground.phase }, { on := 10, ground := Ground.phase }, { on := 11, ground := Ground.phase }, { on := 12, ground := Ground.phase }], guard := none }) rfl (fun K hK => ?_) AllReadyH.nil
       go_simp; refine hK.out _ _ trivial (fun hHeld => ?_)
       clear hK K
       try simp only [Act.put, List.setIfInBounds_toArray, List.set_cons_zero, List.set_cons_succ]
       refine wpAnyH_done (by kernel_rfl) ?_ _
       go_wp2_with fail
       obtain ⟨X5, h5⟩ := HF5.out
       exact ⟨⟨j + 1, by omega, by go_num, X5, _, _, h5⟩, by simp [intOf]; omega⟩
      refine AllReadyH.cons (o := { dst := some 70, op := Op.load 48 (Operand.tmp 69), type := 48, pos := "ref.go:179", after := #[{ on := 9, ground := Ground.data }], guard := none }) rfl (fun K hK => ?_) AllReadyH.nil
      go_simp; refine hK.out _ _ trivial (fun hHeld => ?_)
      clear hK K
      try simp only [Act.put, List.setIfInBounds_toArray, List.set_cons_zero, List.set_cons_succ]
      refine wpAnyH_ready (rs := [1, 11]) (by kernel_rfl) (by simp) ?_
      refine AllReadyH.cons (o := { dst := some 61, op := Op.load 28 (Operand.tmp 60), type := 28, pos := "ref.go:179", after := #[{ on := 0, ground := Ground.data }], guard := none }) rfl (fun K hK => ?_) ?_
      ·go_simp; refine hK.out _ _ trivial (fun hHeld => ?_)
       clear hK K
       try simp only [Act.put, List.setIfInBounds_toArray, List.set_cons_zero, List.set_cons_succ]
       refine wpAnyH_ready (rs := [11]) (by kernel_rfl) (by simp) ?_
       refine AllReadyH.cons (o := { dst := some 71, op := Op.call { callee := Callee.value (Operand.func 51), args := #[Operand.tmp 70], argTypes := #[48] }, type := 48, pos := "ref.go:179", after := #[{ on := 10, ground := Ground.data }], guard := none }) rfl (fun K hK => ?_) AllReadyH.nil
       go_simp; go_at_call 51; (with_reducible refine HCP.out.mono ?_); rintro e w2 ⟨⟨v, xs, rfl, hxo, hxp, hxk⟩, hb2⟩; rw [← HNQ.out] at hxo; obtain ⟨cp2, cc2, rfl, hxr, hxn⟩ := own_sh hxo; have ob2 := (hb2.cell (p := ⟨w0.heap.size, 0, none⟩) hg4l).trans ob0; have hg2 := (hb2.cell (p := ⟨g4, i * 4 + 3, none⟩) hgl).trans hg3; have HB2 := hid hb2; have HXP := hid hxp; have HXK := hid hxk; have HXR := hid hxr; clear hxo hb2 hxp hxk hxr; refine hK.out _ _ trivial (fun hHeld => ?_)
       clear hK K
       try simp only [Act.put, List.setIfInBounds_toArray, List.set_cons_zero, List.set_cons_succ]
       refine wpAnyH_ready (rs := [12]) (by kernel_rfl) (by simp) ?_
       refine AllReadyH.cons (o := { dst := some 72, op := Op.call { callee := Callee.builtin Builtin.append, args := #[Operand.tmp 68, Operand.tmp 71], argTypes := #[48, 48] }, type := 48, pos := "ref.go:179", after := #[{ on := 8, ground := Ground.data }, { on := 11, ground := Ground.data }, { on := 11, ground := Ground.chain }], guard := none }) rfl (fun K hK => ?_) AllReadyH.nil
       (refine step_appO EPiece rfl (.tmp 68) (.tmp 71) rfl W.heap.size (.slice zp zl.length zc) zl.length (zl.flatMap PcR.cells) rfl (own_below HZO.out HB2.out) cp2 NQ cc2 (xs.flatMap PcR.cells) rfl (HXO.out _ HXP.out) hxn HXR.out (fun v hv => by obtain ⟨t, -, h⟩ := List.mem_flatMap.1 hv; exact pcr_ones t v h) (by unfold maxLen; omega) (by omega) (Nat.le_trans hbwd HB2.out.size) ?_); intro v5 w5 ho5 hg5 hs5; obtain ⟨p5, c5, rfl, -⟩ := own_shape ho5; obtain ⟨t3, t4, t5⟩ := HG4.out _ _ HB2.out hg5; have HF5 := hid (HFIN.out _ _ _ _ _ HB2.out HXP.out HXK.out ho5 hg5 hs5); clear ho5 hg5 hs5; refine hK.out _ _ trivial (fun hHeld => ?_)
       clear hK K
       try simp only [Act.put, List.setIfInBounds_toArray, List.set_cons_zero, List.set_cons_succ]
       refine wpAnyH_take (i := 13) (oi := { dst := some 73, op := Op.indexAddr 28 (Operand.tmp 61) (Operand.tmp 62), type := 0, pos := "ref.go:179", after := #[{ on := 1, ground := Ground.data }, { on := 2, ground := Ground.data }, { on := 0, ground := Ground.phase }, { on := 1, ground := Ground.phase }, { on := 2, ground := Ground.phase }, { on := 3, ground := Ground.phase }, { on := 4, ground := Ground.phase }, { on := 5, ground := Ground.phase }, { on := 6, ground := Ground.phase }, { on := 7, ground := Ground.phase }, { on := 8, ground := Ground.phase }, { on := 9, ground := Ground.phase }, { on := 10, ground := Ground.phase }, { on := 11, ground := Ground.phase }, { on := 12, ground := Ground.phase }], guard := none }) (v := ?pebbbav13) rfl (by kernel_rfl) (by kernel_rfl) (by kernel_rfl) (fun _ _ _ h => h) (Or.inl ⟨by rfl, ?pebbbah13⟩) (by assumption) ?pebbbar13
       case pebbbah13 => ((intro w hSw; (try dsimp only at hSw); go_simp); try with_reducible rfl)
       try simp only [Act.put, List.setIfInBounds_toArray, List.set_cons_zero, List.set_cons_succ]
       refine wpAnyH_take (i := 14) (oi := { dst := some 74, op := Op.fieldAddr 50 (Operand.tmp 73) 3, type := 0, pos := "ref.go:179", after := #[{ on := 13, ground := Ground.data }, { on := 0, ground := Ground.phase }, { on := 1, ground := Ground.phase }, { on := 2, ground := Ground.phase }, { on := 3, ground := Ground.phase }, { on := 4, ground := Ground.phase }, { on := 5, ground := Ground.phase }, { on := 6, ground := Ground.phase }, { on := 7, ground := Ground.phase }, { on := 8, ground := Ground.phase }, { on := 9, ground := Ground.phase }, { on := 10, ground := Ground.phase }, { on := 11, ground := Ground.phase }, { on := 12, ground := Ground.phase }], guard := none }) (v := ?pebbbav14) rfl (by kernel_rfl) (by kernel_rfl) (by kernel_rfl) (fun _ _ _ h => h) (Or.inl ⟨by rfl, ?pebbbah14⟩) (by assumption) ?pebbbar14
       case pebbbah14 => ((intro w hSw; (try dsimp only at hSw); go_simp); try with_reducible rfl)
       try simp only [Act.put, List.setIfInBounds_toArray, List.set_cons_zero, List.set_cons_succ]
       refine wpAnyH_ready (rs := [15]) (by kernel_rfl) (by simp) ?_
       refine AllReadyH.cons (o := { dst := none, op := Op.store 48 (Operand.tmp 74) (Operand.tmp 72), type := 0, pos := "ref.go:179", after := #[{ on := 14, ground := Ground.data }, { on := 12, ground := Ground.data }, { on := 12, ground := Ground.chain }, { on := 0, ground := Ground.phase }, { on := 1, ground := Ground.phase }, { on := 2, ground := Ground.phase }, { on := 3, ground := Ground.phase }, { on := 4, ground := Ground.phase }, { on := 5, ground := Ground.phase }, { on := 6, ground := Ground.phase }, { on := 7, ground := Ground.phase }, { on := 8, ground := Ground.phase }, { on := 9, ground := Ground.phase }, { on := 10, ground := Ground.phase }, { on := 11, ground := Ground.phase }, { on := 12, ground := Ground.phase }], guard := none }) rfl (fun K hK => ?_) AllReadyH.nil
       go_simp; refine hK.out _ _ trivial (fun hHeld => ?_)
       clear hK K
       try simp only [Act.put, List.setIfInBounds_toArray, List.set_cons_zero, List.set_cons_succ]
       refine wpAnyH_done (by kernel_rfl) ?_ _
       go_wp2_with fail
       obtain ⟨X5, h5⟩ := HF5.out
       exact ⟨⟨j + 1, by omega, by go_num, X5, _, _, h5⟩, by simp [intOf]; omega⟩
      refine AllReadyH.cons (o := { dst := some 71, op := Op.call { callee := Callee.value (Operand.func 51), args := #[Operand.tmp 70], argTypes := #[48] }, type := 48, pos := "ref.go:179", after := #[{ on := 10, ground := Ground.data }], guard := none }) rfl (fun K hK => ?_) AllReadyH.nil
      go_simp; go_at_call 51; (with_reducible refine HCP.out.mono ?_); rintro e w2 ⟨⟨v, xs, rfl, hxo, hxp, hxk⟩, hb2⟩; rw [← HNQ.out] at hxo; obtain ⟨cp2, cc2, rfl, hxr, hxn⟩ := own_sh hxo; have ob2 := (hb2.cell (p := ⟨w0.heap.size, 0, none⟩) hg4l).trans ob0; have hg2 := (hb2.cell (p := ⟨g4, i * 4 + 3, none⟩) hgl).trans hg3; have HB2 := hid hb2; have HXP := hid hxp; have HXK := hid hxk; have HXR := hid hxr; clear hxo hb2 hxp hxk hxr; refine hK.out _ _ trivial (fun hHeld => ?_)
      clear hK K
      try simp only [Act.put, List.setIfInBounds_toArray, List.set_cons_zero, List.set_cons_succ]
      refine wpAnyH_ready (rs := [1, 12]) (by kernel_rfl) (by simp) ?_
      refine AllReadyH.cons (o := { dst := some 61, op := Op.load 28 (Operand.tmp 60), type := 28, pos := "ref.go:179", after := #[{ on := 0, ground := Ground.data }], guard := none }) rfl (fun K hK => ?_) ?_
      ·go_simp; refine hK.out _ _ trivial (fun hHeld => ?_)
       clear hK K
       try simp only [Act.put, List.setIfInBounds_toArray, List.set_cons_zero, List.set_cons_succ]
       refine wpAnyH_ready (rs := [12]) (by kernel_rfl) (by simp) ?_
       refine AllReadyH.cons (o := { dst := some 72, op := Op.call { callee := Callee.builtin Builtin.append, args := #[Operand.tmp 68, Operand.tmp 71], argTypes := #[48, 48] }, type := 48, pos := "ref.go:179", after := #[{ on := 8, ground := Ground.data }, { on := 11, ground := Ground.data }, { on := 11, ground := Ground.chain }], guard := none }) rfl (fun K hK => ?_) AllReadyH.nil
       (refine step_appO EPiece rfl (.tmp 68) (.tmp 71) rfl W.heap.size (.slice zp zl.length zc) zl.length (zl.flatMap PcR.cells) rfl (own_below HZO.out HB2.out) cp2 NQ cc2 (xs.flatMap PcR.cells) rfl (HXO.out _ HXP.out) hxn HXR.out (fun v hv => by obtain ⟨t, -, h⟩ := List.mem_flatMap.1 hv; exact pcr_ones t v h) (by unfold maxLen; omega) (by omega) (Nat.le_trans hbwd HB2.out.size) ?_); intro v5 w5 ho5 hg5 hs5; obtain ⟨p5, c5, rfl, -⟩ := own_shape ho5; obtain ⟨t3, t4, t5⟩ := HG4.out _ _ HB2.out hg5; have HF5 := hid (HFIN.out _ _ _ _ _ HB2.out HXP.out HXK.out ho5 hg5 hs5); clear ho5 hg5 hs5; refine hK.out _ _ trivial (fun hHeld => ?_)
       clear hK K
       try simp only [Act.put, List.setIfInBounds_toArray, List.set_cons_zero, List.set_cons_succ]
       refine wpAnyH_take (i := 13) (oi := { dst := some 73, op := Op.indexAddr 28 (Operand.tmp 61) (Operand.tmp 62), type := 0, pos := "ref.go:179", after := #[{ on := 1, ground := Ground.data }, { on := 2, ground := Ground.data }, { on := 0, ground := Ground.phase }, { on := 1, ground := Ground.phase }, { on := 2, ground := Ground.phase }, { on := 3, ground := Ground.phase }, { on := 4, ground := Ground.phase }, { on := 5, ground := Ground.phase }, { on := 6, ground := Ground.phase }, { on := 7, ground := Ground.phase }, { on := 8, ground := Ground.phase }, { on := 9, ground := Ground.phase }, { on := 10, ground := Ground.phase }, { on := 11, ground := Ground.phase }, { on := 12, ground := Ground.phase }], guard := none }) (v := ?pebbbbav13) rfl (by kernel_rfl) (by kernel_rfl) (by kernel_rfl) (fun _ _ _ h => h) (Or.inl ⟨by rfl, ?pebbbbah13⟩) (by assumption) ?pebbbbar13
       case pebbbbah13 => ((intro w hSw; (try dsimp only at hSw); go_simp); try with_reducible rfl)
       try simp only [Act.put, List.setIfInBounds_toArray, List.set_cons_zero, List.set_cons_succ]
       refine wpAnyH_take (i := 14) (oi := { dst := some 74, op := Op.fieldAddr 50 (Operand.tmp 73) 3, type := 0, pos := "ref.go:179", after := #[{ on := 13, ground := Ground.data }, { on := 0, ground := Ground.phase }, { on := 1, ground := Ground.phase }, { on := 2, ground := Ground.phase }, { on := 3, ground := Ground.phase }, { on := 4, ground := Ground.phase }, { on := 5, ground := Ground.phase }, { on := 6, ground := Ground.phase }, { on := 7, ground := Ground.phase }, { on := 8, ground := Ground.phase }, { on := 9, ground := Ground.phase }, { on := 10, ground := Ground.phase }, { on := 11, ground := Ground.phase }, { on := 12, ground := Ground.phase }], guard := none }) (v := ?pebbbbav14) rfl (by kernel_rfl) (by kernel_rfl) (by kernel_rfl) (fun _ _ _ h => h) (Or.inl ⟨by rfl, ?pebbbbah14⟩) (by assumption) ?pebbbbar14
       case pebbbbah14 => ((intro w hSw; (try dsimp only at hSw); go_simp); try with_reducible rfl)
       try simp only [Act.put, List.setIfInBounds_toArray, List.set_cons_zero, List.set_cons_succ]
       refine wpAnyH_ready (rs := [15]) (by kernel_rfl) (by simp) ?_
       refine AllReadyH.cons (o := { dst := none, op := Op.store 48 (Operand.tmp 74) (Operand.tmp 72), type := 0, pos := "ref.go:179", after := #[{ on := 14, ground := Ground.data }, { on := 12, ground := Ground.data }, { on := 12, ground := Ground.chain }, { on := 0, ground := Ground.phase }, { on := 1, ground := Ground.phase }, { on := 2, ground := Ground.phase }, { on := 3, ground := Ground.phase }, { on := 4, ground := Ground.phase }, { on := 5, ground := Ground.phase }, { on := 6, ground := Ground.phase }, { on := 7, ground := Ground.phase }, { on := 8, ground := Ground.phase }, { on := 9, ground := Ground.phase }, { on := 10, ground := Ground.phase }, { on := 11, ground := Ground.phase }, { on := 12, ground := Ground.phase }], guard := none }) rfl (fun K hK => ?_) AllReadyH.nil
       go_simp; refine hK.out _ _ trivial (fun hHeld => ?_)
       clear hK K
       try simp only [Act.put, List.setIfInBounds_toArray, List.set_cons_zero, List.set_cons_succ]
       refine wpAnyH_done (by kernel_rfl) ?_ _
       go_wp2_with fail
       obtain ⟨X5, h5⟩ := HF5.out
       exact ⟨⟨j + 1, by omega, by go_num, X5, _, _, h5⟩, by simp [intOf]; omega⟩
      refine AllReadyH.cons (o := { dst := some 72, op := Op.call { callee := Callee.builtin Builtin.append, args := #[Operand.tmp 68, Operand.tmp 71], argTypes := #[48, 48] }, type := 48, pos := "ref.go:179", after := #[{ on := 8, ground := Ground.data }, { on := 11, ground := Ground.data }, { on := 11, ground := Ground.chain }], guard := none }) rfl (fun K hK => ?_) AllReadyH.nil
      (refine step_appO EPiece rfl (.tmp 68) (.tmp 71) rfl W.heap.size (.slice zp zl.length zc) zl.length (zl.flatMap PcR.cells) rfl (own_below HZO.out HB2.out) cp2 NQ cc2 (xs.flatMap PcR.cells) rfl (HXO.out _ HXP.out) hxn HXR.out (fun v hv => by obtain ⟨t, -, h⟩ := List.mem_flatMap.1 hv; exact pcr_ones t v h) (by unfold maxLen; omega) (by omega) (Nat.le_trans hbwd HB2.out.size) ?_); intro v5 w5 ho5 hg5 hs5; obtain ⟨p5, c5, rfl, -⟩ := own_shape ho5; obtain ⟨t3, t4, t5⟩ := HG4.out _ _ HB2.out hg5; have HF5 := hid (HFIN.out _ _ _ _ _ HB2.out HXP.out HXK.out ho5 hg5 hs5); clear ho5 hg5 hs5; refine hK.out _ _ trivial (fun hHeld => ?_)
      clear hK K
      try simp only [Act.put, List.setIfInBounds_toArray, List.set_cons_zero, List.set_cons_succ]
      refine wpAnyH_ready (rs := [1]) (by kernel_rfl) (by simp) ?_
      refine AllReadyH.cons (o := { dst := some 61, op := Op.load 28 (Operand.tmp 60), type := 28, pos := "ref.go:179", after := #[{ on := 0, ground := Ground.data }], guard := none }) rfl (fun K hK => ?_) AllReadyH.nil
      go_simp; refine hK.out _ _ trivial (fun hHeld => ?_)
      clear hK K
      try simp only [Act.put, List.setIfInBounds_toArray, List.set_cons_zero, List.set_cons_succ]
      refine wpAnyH_take (i := 13) (oi := { dst := some 73, op := Op.indexAddr 28 (Operand.tmp 61) (Operand.tmp 62), type := 0, pos := "ref.go:179", after := #[{ on := 1, ground := Ground.data }, { on := 2, ground := Ground.data }, { on := 0, ground := Ground.phase }, { on := 1, ground := Ground.phase }, { on := 2, ground := Ground.phase }, { on := 3, ground := Ground.phase }, { on := 4, ground := Ground.phase }, { on := 5, ground := Ground.phase }, { on := 6, ground := Ground.phase }, { on := 7, ground := Ground.phase }, { on := 8, ground := Ground.phase }, { on := 9, ground := Ground.phase }, { on := 10, ground := Ground.phase }, { on := 11, ground := Ground.phase }, { on := 12, ground := Ground.phase }], guard := none }) (v := ?pebbbbbv13) rfl (by kernel_rfl) (by kernel_rfl) (by kernel_rfl) (fun _ _ _ h => h) (Or.inl ⟨by rfl, ?pebbbbbh13⟩) (by assumption) ?pebbbbbr13
      case pebbbbbh13 => ((intro w hSw; (try dsimp only at hSw); go_simp); try with_reducible rfl)
      try simp only [Act.put, List.setIfInBounds_toArray, List.set_cons_zero, List.set_cons_succ]
      refine wpAnyH_take (i := 14) (oi := { dst := some 74, op := Op.fieldAddr 50 (Operand.tmp 73) 3, type := 0, pos := "ref.go:179", after := #[{ on := 13, ground := Ground.data }, { on := 0, ground := Ground.phase }, { on := 1, ground := Ground.phase }, { on := 2, ground := Ground.phase }, { on := 3, ground := Ground.phase }, { on := 4, ground := Ground.phase }, { on := 5, ground := Ground.phase }, { on := 6, ground := Ground.phase }, { on := 7, ground := Ground.phase }, { on := 8, ground := Ground.phase }, { on := 9, ground := Ground.phase }, { on := 10, ground := Ground.phase }, { on := 11, ground := Ground.phase }, { on := 12, ground := Ground.phase }], guard := none }) (v := ?pebbbbbv14) rfl (by kernel_rfl) (by kernel_rfl) (by kernel_rfl) (fun _ _ _ h => h) (Or.inl ⟨by rfl, ?pebbbbbh14⟩) (by assumption) ?pebbbbbr14
      case pebbbbbh14 => ((intro w hSw; (try dsimp only at hSw); go_simp); try with_reducible rfl)
      try simp only [Act.put, List.setIfInBounds_toArray, List.set_cons_zero, List.set_cons_succ]
      refine wpAnyH_ready (rs := [15]) (by kernel_rfl) (by simp) ?_
      refine AllReadyH.cons (o := { dst := none, op := Op.store 48 (Operand.tmp 74) (Operand.tmp 72), type := 0, pos := "ref.go:179", after := #[{ on := 14, ground := Ground.data }, { on := 12, ground := Ground.data }, { on := 12, ground := Ground.chain }, { on := 0, ground := Ground.phase }, { on := 1, ground := Ground.phase }, { on := 2, ground := Ground.phase }, { on := 3, ground := Ground.phase }, { on := 4, ground := Ground.phase }, { on := 5, ground := Ground.phase }, { on := 6, ground := Ground.phase }, { on := 7, ground := Ground.phase }, { on := 8, ground := Ground.phase }, { on := 9, ground := Ground.phase }, { on := 10, ground := Ground.phase }, { on := 11, ground := Ground.phase }, { on := 12, ground := Ground.phase }], guard := none }) rfl (fun K hK => ?_) AllReadyH.nil
      go_simp; refine hK.out _ _ trivial (fun hHeld => ?_)
      clear hK K
      try simp only [Act.put, List.setIfInBounds_toArray, List.set_cons_zero, List.set_cons_succ]
      refine wpAnyH_done (by kernel_rfl) ?_ _
      go_wp2_with fail
      obtain ⟨X5, h5⟩ := HF5.out
      exact ⟨⟨j + 1, by omega, by go_num, X5, _, _, h5⟩, by simp [intOf]; omega⟩
     refine AllReadyH.cons (o := { dst := some 70, op := Op.load 48 (Operand.tmp 69), type := 48, pos := "ref.go:179", after := #[{ on := 9, ground := Ground.data }], guard := none }) rfl (fun K hK => ?_) AllReadyH.nil
     go_simp; refine hK.out _ _ trivial (fun hHeld => ?_)
     clear hK K
     try simp only [Act.put, List.setIfInBounds_toArray, List.set_cons_zero, List.set_cons_succ]
     refine wpAnyH_ready (rs := [1, 8, 11]) (by kernel_rfl) (by simp) ?_
     refine AllReadyH.cons (o := { dst := some 61, op := Op.load 28 (Operand.tmp 60), type := 28, pos := "ref.go:179", after := #[{ on := 0, ground := Ground.data }], guard := none }) rfl (fun K hK => ?_) ?_
     ·go_simp; refine hK.out _ _ trivial (fun hHeld => ?_)
      clear hK K
      try simp only [Act.put, List.setIfInBounds_toArray, List.set_cons_zero, List.set_cons_succ]
      refine wpAnyH_ready (rs := [8, 11]) (by kernel_rfl) (by simp) ?_
      refine AllReadyH.cons (o := { dst := some 68, op := Op.load 48 (Operand.tmp 67), type := 48, pos := "ref.go:179", after := #[{ on := 7, ground := Ground.data }], guard := none }) rfl (fun K hK => ?_) ?_
      ·go_simp; refine hK.out _ _ trivial (fun hHeld => ?_)
       clear hK K
       try simp only [Act.put, List.setIfInBounds_toArray, List.set_cons_zero, List.set_cons_succ]
       refine wpAnyH_ready (rs := [11]) (by kernel_rfl) (by simp) ?_
       refine AllReadyH.cons (o := { dst := some 71, op := Op.call { callee := Callee.value (Operand.func 51), args := #[Operand.tmp 70], argTypes := #[48] }, type := 48, pos := "ref.go:179", after := #[{ on := 10, ground := Ground.data }], guard := none }) rfl (fun K hK => ?_) AllReadyH.nil
       go_simp; go_at_call 51; (with_reducible refine HCP.out.mono ?_); rintro e w2 ⟨⟨v, xs, rfl, hxo, hxp, hxk⟩, hb2⟩; rw [← HNQ.out] at hxo; obtain ⟨cp2, cc2, rfl, hxr, hxn⟩ := own_sh hxo; have ob2 := (hb2.cell (p := ⟨w0.heap.size, 0, none⟩) hg4l).trans ob0; have hg2 := (hb2.cell (p := ⟨g4, i * 4 + 3, none⟩) hgl).trans hg3; have HB2 := hid hb2; have HXP := hid hxp; have HXK := hid hxk; have HXR := hid hxr; clear hxo hb2 hxp hxk hxr; refine hK.out _ _ trivial (fun hHeld => ?_)
       clear hK K
       try simp only [Act.put, List.setIfInBounds_toArray, List.set_cons_zero, List.set_cons_succ]
       refine wpAnyH_ready (rs := [12]) (by kernel_rfl) (by simp) ?_
       refine AllReadyH.cons (o := { dst := some 72, op := Op.call { callee := Callee.builtin Builtin.append, args := #[Operand.tmp 68, Operand.tmp 71], argTypes := #[48, 48] }, type := 48, pos := "ref.go:179", after := #[{ on := 8, ground := Ground.data }, { on := 11, ground := Ground.data }, { on := 11, ground := Ground.chain }], guard := none }) rfl (fun K hK => ?_) AllReadyH.nil
       (refine step_appO EPiece rfl (.tmp 68) (.tmp 71) rfl W.heap.size (.slice zp zl.length zc) zl.length (zl.flatMap PcR.cells) rfl (own_below HZO.out HB2.out) cp2 NQ cc2 (xs.flatMap PcR.cells) rfl (HXO.out _ HXP.out) hxn HXR.out (fun v hv => by obtain ⟨t, -, h⟩ := List.mem_flatMap.1 hv; exact pcr_ones t v h) (by unfold maxLen; omega) (by omega) (Nat.le_trans hbwd HB2.out.size) ?_); intro v5 w5 ho5 hg5 hs5; obtain ⟨p5, c5, rfl, -⟩ := own_shape ho5; obtain ⟨t3, t4, t5⟩ := HG4.out _ _ HB2.out hg5; have HF5 := hid (HFIN.out _ _ _ _ _ HB2.out HXP.out HXK.out ho5 hg5 hs5); clear ho5 hg5 hs5; refine hK.out _ _ trivial (fun hHeld => ?_)
       clear hK K
       try simp only [Act.put, List.setIfInBounds_toArray, List.set_cons_zero, List.set_cons_succ]
       refine wpAnyH_take (i := 13) (oi := { dst := some 73, op := Op.indexAddr 28 (Operand.tmp 61) (Operand.tmp 62), type := 0, pos := "ref.go:179", after := #[{ on := 1, ground := Ground.data }, { on := 2, ground := Ground.data }, { on := 0, ground := Ground.phase }, { on := 1, ground := Ground.phase }, { on := 2, ground := Ground.phase }, { on := 3, ground := Ground.phase }, { on := 4, ground := Ground.phase }, { on := 5, ground := Ground.phase }, { on := 6, ground := Ground.phase }, { on := 7, ground := Ground.phase }, { on := 8, ground := Ground.phase }, { on := 9, ground := Ground.phase }, { on := 10, ground := Ground.phase }, { on := 11, ground := Ground.phase }, { on := 12, ground := Ground.phase }], guard := none }) (v := ?pebcaav13) rfl (by kernel_rfl) (by kernel_rfl) (by kernel_rfl) (fun _ _ _ h => h) (Or.inl ⟨by rfl, ?pebcaah13⟩) (by assumption) ?pebcaar13
       case pebcaah13 => ((intro w hSw; (try dsimp only at hSw); go_simp); try with_reducible rfl)
       try simp only [Act.put, List.setIfInBounds_toArray, List.set_cons_zero, List.set_cons_succ]
       refine wpAnyH_take (i := 14) (oi := { dst := some 74, op := Op.fieldAddr 50 (Operand.tmp 73) 3, type := 0, pos := "ref.go:179", after := #[{ on := 13, ground := Ground.data }, { on := 0, ground := Ground.phase }, { on := 1, ground := Ground.phase }, { on := 2, ground := Ground.phase }, { on := 3, ground := Ground.phase }, { on := 4, ground := Ground.phase }, { on := 5, ground := Ground.phase }, { on := 6, ground := Ground.phase }, { on := 7, ground := Ground.phase }, { on := 8, ground := Ground.phase }, { on := 9, ground := Ground.phase }, { on := 10, ground := Ground.phase }, { on := 11, ground := Ground.phase }, { on := 12, ground := Ground.phase }], guard := none }) (v := ?pebcaav14) rfl (by kernel_rfl) (by kernel_rfl) (by kernel_rfl) (fun _ _ _ h => h) (Or.inl ⟨by rfl, ?pebcaah14⟩) (by assumption) ?pebcaar14
       case pebcaah14 => ((intro w hSw; (try dsimp only at hSw); go_simp); try with_reducible rfl)
       try simp only [Act.put, List.setIfInBounds_toArray, List.set_cons_zero, List.set_cons_succ]
       refine wpAnyH_ready (rs := [15]) (by kernel_rfl) (by simp) ?_
       refine AllReadyH.cons (o := { dst := none, op := Op.store 48 (Operand.tmp 74) (Operand.tmp 72), type := 0, pos := "ref.go:179", after := #[{ on := 14, ground := Ground.data }, { on := 12, ground := Ground.data }, { on := 12, ground := Ground.chain }, { on := 0, ground := Ground.phase }, { on := 1, ground := Ground.phase }, { on := 2, ground := Ground.phase }, { on := 3, ground := Ground.phase }, { on := 4, ground := Ground.phase }, { on := 5, ground := Ground.phase }, { on := 6, ground := Ground.phase }, { on := 7, ground := Ground.phase }, { on := 8, ground := Ground.phase }, { on := 9, ground := Ground.phase }, { on := 10, ground := Ground.phase }, { on := 11, ground := Ground.phase }, { on := 12, ground := Ground.phase }], guard := none }) rfl (fun K hK => ?_) AllReadyH.nil
       go_simp; refine hK.out _ _ trivial (fun hHeld => ?_)
       clear hK K
       try simp only [Act.put, List.setIfInBounds_toArray, List.set_cons_zero, List.set_cons_succ]
       refine wpAnyH_done (by kernel_rfl) ?_ _
       go_wp2_with fail
       obtain ⟨X5, h5⟩ := HF5.out
       exact ⟨⟨j + 1, by omega, by go_num, X5, _, _, h5⟩, by simp [intOf]; omega⟩
      refine AllReadyH.cons (o := { dst := some 71, op := Op.call { callee := Callee.value (Operand.func 51), args := #[Operand.tmp 70], argTypes := #[48] }, type := 48, pos := "ref.go:179", after := #[{ on := 10, ground := Ground.data }], guard := none }) rfl (fun K hK => ?_) AllReadyH.nil
      go_simp; go_at_call 51; (with_reducible refine HCP.out.mono ?_); rintro e w2 ⟨⟨v, xs, rfl, hxo, hxp, hxk⟩, hb2⟩; rw [← HNQ.out] at hxo; obtain ⟨cp2, cc2, rfl, hxr, hxn⟩ := own_sh hxo; have ob2 := (hb2.cell (p := ⟨w0.heap.size, 0, none⟩) hg4l).trans ob0; have hg2 := (hb2.cell (p := ⟨g4, i * 4 + 3, none⟩) hgl).trans hg3; have HB2 := hid hb2; have HXP := hid hxp; have HXK := hid hxk; have HXR := hid hxr; clear hxo hb2 hxp hxk hxr; refine hK.out _ _ trivial (fun hHeld => ?_)
      clear hK K
      try simp only [Act.put, List.setIfInBounds_toArray, List.set_cons_zero, List.set_cons_succ]
      refine wpAnyH_ready (rs := [8]) (by kernel_rfl) (by simp) ?_
      refine AllReadyH.cons (o := { dst := some 68, op := Op.load 48 (Operand.tmp 67), type := 48, pos := "ref.go:179", after := #[{ on := 7, ground := Ground.data }], guard := none }) rfl (fun K hK => ?_) AllReadyH.nil
      go_simp; refine hK.out _ _ trivial (fun hHeld => ?_)
      clear hK K
      try simp only [Act.put, List.setIfInBounds_toArray, List.set_cons_zero, List.set_cons_succ]
      refine wpAnyH_ready (rs := [12]) (by kernel_rfl) (by simp) ?_
      refine AllReadyH.cons (o := { dst := some 72, op := Op.call { callee := Callee.builtin Builtin.append, args := #[Operand.tmp 68, Operand.tmp 71], argTypes := #[48, 48] }, type := 48, pos := "ref.go:179", after := #[{ on := 8, ground := Ground.data }, { on := 11, ground := Ground.data }, { on := 11, ground := Ground.chain }], guard := none }) rfl (fun K hK => ?_) AllReadyH.nil
      (refine step_appO EPiece rfl (.tmp 68) (.tmp 71) rfl W.heap.size (.slice zp zl.length zc) zl.length (zl.flatMap PcR.cells) rfl (own_below HZO.out HB2.out) cp2 NQ cc2 (xs.flatMap PcR.cells) rfl (HXO.out _ HXP.out) hxn HXR.out (fun v hv => by obtain ⟨t, -, h⟩ := List.mem_flatMap.1 hv; exact pcr_ones t v h) (by unfold maxLen; omega) (by omega) (Nat.le_trans hbwd HB2.out.size) ?_); intro v5 w5 ho5 hg5 hs5; obtain ⟨p5, c5, rfl, -⟩ := own_shape ho5; obtain ⟨t3, t4, t5⟩ := HG4.out _ _ HB2.out hg5; have HF5 := hid (HFIN.out _ _ _ _ _ HB2.out HXP.out HXK.out ho5 hg5 hs5); clear ho5 hg5 hs5; refine hK.out _ _ trivial (fun hHeld => ?_)
      clear hK K
      try simp only [Act.put, List.setIfInBounds_toArray, List.set_cons_zero, List.set_cons_succ]
      refine wpAnyH_take (i := 13) (oi := { dst := some 73, op := Op.indexAddr 28 (Operand.tmp 61) (Operand.tmp 62), type := 0, pos := "ref.go:179", after := #[{ on := 1, ground := Ground.data }, { on := 2, ground := Ground.data }, { on := 0, ground := Ground.phase }, { on := 1, ground := Ground.phase }, { on := 2, ground := Ground.phase }, { on := 3, ground := Ground.phase }, { on := 4, ground := Ground.phase }, { on := 5, ground := Ground.phase }, { on := 6, ground := Ground.phase }, { on := 7, ground := Ground.phase }, { on := 8, ground := Ground.phase }, { on := 9, ground := Ground.phase }, { on := 10, ground := Ground.phase }, { on := 11, ground := Ground.phase }, { on := 12, ground := Ground.phase }], guard := none }) (v := ?pebcabv13) rfl (by kernel_rfl) (by kernel_rfl) (by kernel_rfl) (fun _ _ _ h => h) (Or.inl ⟨by rfl, ?pebcabh13⟩) (by assumption) ?pebcabr13
      case pebcabh13 => ((intro w hSw; (try dsimp only at hSw); go_simp); try with_reducible rfl)
      try simp only [Act.put, List.setIfInBounds_toArray, List.set_cons_zero, List.set_cons_succ]
      refine wpAnyH_take (i := 14) (oi := { dst := some 74, op := Op.fieldAddr 50 (Operand.tmp 73) 3, type := 0, pos := "ref.go:179", after := #[{ on := 13, ground := Ground.data }, { on := 0, ground := Ground.phase }, { on := 1, ground := Ground.phase }, { on := 2, ground := Ground.phase }, { on := 3, ground := Ground.phase }, { on := 4, ground := Ground.phase }, { on := 5, ground := Ground.phase }, { on := 6, ground := Ground.phase }, { on := 7, ground := Ground.phase }, { on := 8, ground := Ground.phase }, { on := 9, ground := Ground.phase }, { on := 10, ground := Ground.phase }, { on := 11, ground := Ground.phase }, { on := 12, ground := Ground.phase }], guard := none }) (v := ?pebcabv14) rfl (by kernel_rfl) (by kernel_rfl) (by kernel_rfl) (fun _ _ _ h => h) (Or.inl ⟨by rfl, ?pebcabh14⟩) (by assumption) ?pebcabr14
      case pebcabh14 => ((intro w hSw; (try dsimp only at hSw); go_simp); try with_reducible rfl)
      try simp only [Act.put, List.setIfInBounds_toArray, List.set_cons_zero, List.set_cons_succ]
      refine wpAnyH_ready (rs := [15]) (by kernel_rfl) (by simp) ?_
      refine AllReadyH.cons (o := { dst := none, op := Op.store 48 (Operand.tmp 74) (Operand.tmp 72), type := 0, pos := "ref.go:179", after := #[{ on := 14, ground := Ground.data }, { on := 12, ground := Ground.data }, { on := 12, ground := Ground.chain }, { on := 0, ground := Ground.phase }, { on := 1, ground := Ground.phase }, { on := 2, ground := Ground.phase }, { on := 3, ground := Ground.phase }, { on := 4, ground := Ground.phase }, { on := 5, ground := Ground.phase }, { on := 6, ground := Ground.phase }, { on := 7, ground := Ground.phase }, { on := 8, ground := Ground.phase }, { on := 9, ground := Ground.phase }, { on := 10, ground := Ground.phase }, { on := 11, ground := Ground.phase }, { on := 12, ground := Ground.phase }], guard := none }) rfl (fun K hK => ?_) AllReadyH.nil
      go_simp; refine hK.out _ _ trivial (fun hHeld => ?_)
      clear hK K
      try simp only [Act.put, List.setIfInBounds_toArray, List.set_cons_zero, List.set_cons_succ]
      refine wpAnyH_done (by kernel_rfl) ?_ _
      go_wp2_with fail
      obtain ⟨X5, h5⟩ := HF5.out
      exact ⟨⟨j + 1, by omega, by go_num, X5, _, _, h5⟩, by simp [intOf]; omega⟩
     refine AllReadyH.cons (o := { dst := some 68, op := Op.load 48 (Operand.tmp 67), type := 48, pos := "ref.go:179", after := #[{ on := 7, ground := Ground.data }], guard := none }) rfl (fun K hK => ?_) ?_
     ·go_simp; refine hK.out _ _ trivial (fun hHeld => ?_)
      clear hK K
      try simp only [Act.put, List.setIfInBounds_toArray, List.set_cons_zero, List.set_cons_succ]
      refine wpAnyH_ready (rs := [1, 11]) (by kernel_rfl) (by simp) ?_
      refine AllReadyH.cons (o := { dst := some 61, op := Op.load 28 (Operand.tmp 60), type := 28, pos := "ref.go:179", after := #[{ on := 0, ground := Ground.data }], guard := none }) rfl (fun K hK => ?_) ?_
      ·go_simp; refine hK.out _ _ trivial (fun hHeld => ?_)
       clear hK K
       try simp only [Act.put, List.setIfInBounds_toArray, List.set_cons_zero, List.set_cons_succ]
       refine wpAnyH_ready (rs := [11]) (by kernel_rfl) (by simp) ?_
       refine AllReadyH.cons (o := { dst := some 71, op := Op.call { callee := Callee.value (Operand.func 51), args := #[Operand.tmp 70], argTypes := #[48] }, type := 48, pos := "ref.go:179", after := #[{ on := 10, ground := Ground.data }], guard := none }) rfl (fun K hK => ?_) AllReadyH.nil
       go_simp; go_at_call 51; (with_reducible refine HCP.out.mono ?_); rintro e w2 ⟨⟨v, xs, rfl, hxo, hxp, hxk⟩, hb2⟩; rw [← HNQ.out] at hxo; obtain ⟨cp2, cc2, rfl, hxr, hxn⟩ := own_sh hxo; have ob2 := (hb2.cell (p := ⟨w0.heap.size, 0, none⟩) hg4l).trans ob0; have hg2 := (hb2.cell (p := ⟨g4, i * 4 + 3, none⟩) hgl).trans hg3; have HB2 := hid hb2; have HXP := hid hxp; have HXK := hid hxk; have HXR := hid hxr; clear hxo hb2 hxp hxk hxr; refine hK.out _ _ trivial (fun hHeld => ?_)
       clear hK K
       try simp only [Act.put, List.setIfInBounds_toArray, List.set_cons_zero, List.set_cons_succ]
       refine wpAnyH_ready (rs := [12]) (by kernel_rfl) (by simp) ?_
       refine AllReadyH.cons (o := { dst := some 72, op := Op.call { callee := Callee.builtin Builtin.append, args := #[Operand.tmp 68, Operand.tmp 71], argTypes := #[48, 48] }, type := 48, pos := "ref.go:179", after := #[{ on := 8, ground := Ground.data }, { on := 11, ground := Ground.data }, { on := 11, ground := Ground.chain }], guard := none }) rfl (fun K hK => ?_) AllReadyH.nil
       (refine step_appO EPiece rfl (.tmp 68) (.tmp 71) rfl W.heap.size (.slice zp zl.length zc) zl.length (zl.flatMap PcR.cells) rfl (own_below HZO.out HB2.out) cp2 NQ cc2 (xs.flatMap PcR.cells) rfl (HXO.out _ HXP.out) hxn HXR.out (fun v hv => by obtain ⟨t, -, h⟩ := List.mem_flatMap.1 hv; exact pcr_ones t v h) (by unfold maxLen; omega) (by omega) (Nat.le_trans hbwd HB2.out.size) ?_); intro v5 w5 ho5 hg5 hs5; obtain ⟨p5, c5, rfl, -⟩ := own_shape ho5; obtain ⟨t3, t4, t5⟩ := HG4.out _ _ HB2.out hg5; have HF5 := hid (HFIN.out _ _ _ _ _ HB2.out HXP.out HXK.out ho5 hg5 hs5); clear ho5 hg5 hs5; refine hK.out _ _ trivial (fun hHeld => ?_)
       clear hK K
       try simp only [Act.put, List.setIfInBounds_toArray, List.set_cons_zero, List.set_cons_succ]
       refine wpAnyH_take (i := 13) (oi := { dst := some 73, op := Op.indexAddr 28 (Operand.tmp 61) (Operand.tmp 62), type := 0, pos := "ref.go:179", after := #[{ on := 1, ground := Ground.data }, { on := 2, ground := Ground.data }, { on := 0, ground := Ground.phase }, { on := 1, ground := Ground.phase }, { on := 2, ground := Ground.phase }, { on := 3, ground := Ground.phase }, { on := 4, ground := Ground.phase }, { on := 5, ground := Ground.phase }, { on := 6, ground := Ground.phase }, { on := 7, ground := Ground.phase }, { on := 8, ground := Ground.phase }, { on := 9, ground := Ground.phase }, { on := 10, ground := Ground.phase }, { on := 11, ground := Ground.phase }, { on := 12, ground := Ground.phase }], guard := none }) (v := ?pebcbav13) rfl (by kernel_rfl) (by kernel_rfl) (by kernel_rfl) (fun _ _ _ h => h) (Or.inl ⟨by rfl, ?pebcbah13⟩) (by assumption) ?pebcbar13
       case pebcbah13 => ((intro w hSw; (try dsimp only at hSw); go_simp); try with_reducible rfl)
       try simp only [Act.put, List.setIfInBounds_toArray, List.set_cons_zero, List.set_cons_succ]
       refine wpAnyH_take (i := 14) (oi := { dst := some 74, op := Op.fieldAddr 50 (Operand.tmp 73) 3, type := 0, pos := "ref.go:179", after := #[{ on := 13, ground := Ground.data }, { on := 0, ground := Ground.phase }, { on := 1, ground := Ground.phase }, { on := 2, ground := Ground.phase }, { on := 3, ground := Ground.phase }, { on := 4, ground := Ground.phase }, { on := 5, ground := Ground.phase }, { on := 6, ground := Ground.phase }, { on := 7, ground := Ground.phase }, { on := 8, ground := Ground.phase }, { on := 9, ground := Ground.phase }, { on := 10, ground := Ground.phase }, { on := 11, ground := Ground.phase }, { on := 12, ground := Ground.phase }], guard := none }) (v := ?pebcbav14) rfl (by kernel_rfl) (by kernel_rfl) (by kernel_rfl) (fun _ _ _ h => h) (Or.inl ⟨by rfl, ?pebcbah14⟩) (by assumption) ?pebcbar14
       case pebcbah14 => ((intro w hSw; (try dsimp only at hSw); go_simp); try with_reducible rfl)
       try simp only [Act.put, List.setIfInBounds_toArray, List.set_cons_zero, List.set_cons_succ]
       refine wpAnyH_ready (rs := [15]) (by kernel_rfl) (by simp) ?_
       refine AllReadyH.cons (o := { dst := none, op := Op.store 48 (Operand.tmp 74) (Operand.tmp 72), type := 0, pos := "ref.go:179", after := #[{ on := 14, ground := Ground.data }, { on := 12, ground := Ground.data }, { on := 12, ground := Ground.chain }, { on := 0, ground := Ground.phase }, { on := 1, ground := Ground.phase }, { on := 2, ground := Ground.phase }, { on := 3, ground := Ground.phase }, { on := 4, ground := Ground.phase }, { on := 5, ground := Ground.phase }, { on := 6, ground := Ground.phase }, { on := 7, ground := Ground.phase }, { on := 8, ground := Ground.phase }, { on := 9, ground := Ground.phase }, { on := 10, ground := Ground.phase }, { on := 11, ground := Ground.phase }, { on := 12, ground := Ground.phase }], guard := none }) rfl (fun K hK => ?_) AllReadyH.nil
       go_simp; refine hK.out _ _ trivial (fun hHeld => ?_)
       clear hK K
       try simp only [Act.put, List.setIfInBounds_toArray, List.set_cons_zero, List.set_cons_succ]
       refine wpAnyH_done (by kernel_rfl) ?_ _
       go_wp2_with fail
       obtain ⟨X5, h5⟩ := HF5.out
       exact ⟨⟨j + 1, by omega, by go_num, X5, _, _, h5⟩, by simp [intOf]; omega⟩
      refine AllReadyH.cons (o := { dst := some 71, op := Op.call { callee := Callee.value (Operand.func 51), args := #[Operand.tmp 70], argTypes := #[48] }, type := 48, pos := "ref.go:179", after := #[{ on := 10, ground := Ground.data }], guard := none }) rfl (fun K hK => ?_) AllReadyH.nil
      go_simp; go_at_call 51; (with_reducible refine HCP.out.mono ?_); rintro e w2 ⟨⟨v, xs, rfl, hxo, hxp, hxk⟩, hb2⟩; rw [← HNQ.out] at hxo; obtain ⟨cp2, cc2, rfl, hxr, hxn⟩ := own_sh hxo; have ob2 := (hb2.cell (p := ⟨w0.heap.size, 0, none⟩) hg4l).trans ob0; have hg2 := (hb2.cell (p := ⟨g4, i * 4 + 3, none⟩) hgl).trans hg3; have HB2 := hid hb2; have HXP := hid hxp; have HXK := hid hxk; have HXR := hid hxr; clear hxo hb2 hxp hxk hxr; refine hK.out _ _ trivial (fun hHeld => ?_)
      clear hK K
      try simp only [Act.put, List.setIfInBounds_toArray, List.set_cons_zero, List.set_cons_succ]
      refine wpAnyH_ready (rs := [1, 12]) (by kernel_rfl) (by simp) ?_
      refine AllReadyH.cons (o := { dst := some 61, op := Op.load 28 (Operand.tmp 60), type := 28, pos := "ref.go:179", after := #[{ on := 0, ground := Ground.data }], guard := none }) rfl (fun K hK => ?_) ?_
      ·go_simp; refine hK.out _ _ trivial (fun hHeld => ?_)
       clear hK K
       try simp only [Act.put, List.setIfInBounds_toArray, List.set_cons_zero, List.set_cons_succ]
       refine wpAnyH_ready (rs := [12]) (by kernel_rfl) (by simp) ?_
       refine AllReadyH.cons (o := { dst := some 72, op := Op.call { callee := Callee.builtin Builtin.append, args := #[Operand.tmp 68, Operand.tmp 71], argTypes := #[48, 48] }, type := 48, pos := "ref.go:179", after := #[{ on := 8, ground := Ground.data }, { on := 11, ground := Ground.data }, { on := 11, ground := Ground.chain }], guard := none }) rfl (fun K hK => ?_) AllReadyH.nil
       (refine step_appO EPiece rfl (.tmp 68) (.tmp 71) rfl W.heap.size (.slice zp zl.length zc) zl.length (zl.flatMap PcR.cells) rfl (own_below HZO.out HB2.out) cp2 NQ cc2 (xs.flatMap PcR.cells) rfl (HXO.out _ HXP.out) hxn HXR.out (fun v hv => by obtain ⟨t, -, h⟩ := List.mem_flatMap.1 hv; exact pcr_ones t v h) (by unfold maxLen; omega) (by omega) (Nat.le_trans hbwd HB2.out.size) ?_); intro v5 w5 ho5 hg5 hs5; obtain ⟨p5, c5, rfl, -⟩ := own_shape ho5; obtain ⟨t3, t4, t5⟩ := HG4.out _ _ HB2.out hg5; have HF5 := hid (HFIN.out _ _ _ _ _ HB2.out HXP.out HXK.out ho5 hg5 hs5); clear ho5 hg5 hs5; refine hK.out _ _ trivial (fun hHeld => ?_)
       clear hK K
       try simp only [Act.put, List.setIfInBounds_toArray, List.set_cons_zero, List.set_cons_succ]
       refine wpAnyH_take (i := 13) (oi := { dst := some 73, op := Op.indexAddr 28 (Operand.tmp 61) (Operand.tmp 62), type := 0, pos := "ref.go:179", after := #[{ on := 1, ground := Ground.data }, { on := 2, ground := Ground.data }, { on := 0, ground := Ground.phase }, { on := 1, ground := Ground.phase }, { on := 2, ground := Ground.phase }, { on := 3, ground := Ground.phase }, { on := 4, ground := Ground.phase }, { on := 5, ground := Ground.phase }, { on := 6, ground := Ground.phase }, { on := 7, ground := Ground.phase }, { on := 8, ground := Ground.phase }, { on := 9, ground := Ground.phase }, { on := 10, ground := Ground.phase }, { on := 11, ground := Ground.phase }, { on := 12, ground := Ground.phase }], guard := none }) (v := ?pebcbbav13) rfl (by kernel_rfl) (by kernel_rfl) (by kernel_rfl) (fun _ _ _ h => h) (Or.inl ⟨by rfl, ?pebcbbah13⟩) (by assumption) ?pebcbbar13
       case pebcbbah13 => ((intro w hSw; (try dsimp only at hSw); go_simp); try with_reducible rfl)
       try simp only [Act.put, List.setIfInBounds_toArray, List.set_cons_zero, List.set_cons_succ]
       refine wpAnyH_take (i := 14) (oi := { dst := some 74, op := Op.fieldAddr 50 (Operand.tmp 73) 3, type := 0, pos := "ref.go:179", after := #[{ on := 13, ground := Ground.data }, { on := 0, ground := Ground.phase }, { on := 1, ground := Ground.phase }, { on := 2, ground := Ground.phase }, { on := 3, ground := Ground.phase }, { on := 4, ground := Ground.phase }, { on := 5, ground := Ground.phase }, { on := 6, ground := Ground.phase }, { on := 7, ground := Ground.phase }, { on := 8, ground := Ground.phase }, { on := 9, ground := Ground.phase }, { on := 10, ground := Ground.phase }, { on := 11, ground := Ground.phase }, { on := 12, ground := Ground.phase }], guard := none }) (v := ?pebcbbav14) rfl (by kernel_rfl) (by kernel_rfl) (by kernel_rfl) (fun _ _ _ h => h) (Or.inl ⟨by rfl, ?pebcbbah14⟩) (by assumption) ?pebcbbar14
       case pebcbbah14 => ((intro w hSw; (try dsimp only at hSw); go_simp); try with_reducible rfl)
       try simp only [Act.put, List.setIfInBounds_toArray, List.set_cons_zero, List.set_cons_succ]
       refine wpAnyH_ready (rs := [15]) (by kernel_rfl) (by simp) ?_
       refine AllReadyH.cons (o := { dst := none, op := Op.store 48 (Operand.tmp 74) (Operand.tmp 72), type := 0, pos := "ref.go:179", after := #[{ on := 14, ground := Ground.data }, { on := 12, ground := Ground.data }, { on := 12, ground := Ground.chain }, { on := 0, ground := Ground.phase }, { on := 1, ground := Ground.phase }, { on := 2, ground := Ground.phase }, { on := 3, ground := Ground.phase }, { on := 4, ground := Ground.phase }, { on := 5, ground := Ground.phase }, { on := 6, ground := Ground.phase }, { on := 7, ground := Ground.phase }, { on := 8, ground := Ground.phase }, { on := 9, ground := Ground.phase }, { on := 10, ground := Ground.phase }, { on := 11, ground := Ground.phase }, { on := 12, ground := Ground.phase }], guard := none }) rfl (fun K hK => ?_) AllReadyH.nil
       go_simp; refine hK.out _ _ trivial (fun hHeld => ?_)
       clear hK K
       try simp only [Act.put, List.setIfInBounds_toArray, List.set_cons_zero, List.set_cons_succ]
       refine wpAnyH_done (by kernel_rfl) ?_ _
       go_wp2_with fail
       obtain ⟨X5, h5⟩ := HF5.out
       exact ⟨⟨j + 1, by omega, by go_num, X5, _, _, h5⟩, by simp [intOf]; omega⟩
      refine AllReadyH.cons (o := { dst := some 72, op := Op.call { callee := Callee.builtin Builtin.append, args := #[Operand.tmp 68, Operand.tmp 71], argTypes := #[48, 48] }, type := 48, pos := "ref.go:179", after := #[{ on := 8, ground := Ground.data }, { on := 11, ground := Ground.data }, { on := 11, ground := Ground.chain }], guard := none }) rfl (fun K hK => ?_) AllReadyH.nil
      (refine step_appO EPiece rfl (.tmp 68) (.tmp 71) rfl W.heap.size (.slice zp zl.length zc) zl.length (zl.flatMap PcR.cells) rfl (own_below HZO.out HB2.out) cp2 NQ cc2 (xs.flatMap PcR.cells) rfl (HXO.out _ HXP.out) hxn HXR.out (fun v hv => by obtain ⟨t, -, h⟩ := List.mem_flatMap.1 hv; exact pcr_ones t v h) (by unfold maxLen; omega) (by omega) (Nat.le_trans hbwd HB2.out.size) ?_); intro v5 w5 ho5 hg5 hs5; obtain ⟨p5, c5, rfl, -⟩ := own_shape ho5; obtain ⟨t3, t4, t5⟩ := HG4.out _ _ HB2.out hg5; have HF5 := hid (HFIN.out _ _ _ _ _ HB2.out HXP.out HXK.out ho5 hg5 hs5); clear ho5 hg5 hs5; refine hK.out _ _ trivial (fun hHeld => ?_)
      clear hK K
      try simp only [Act.put, List.setIfInBounds_toArray, List.set_cons_zero, List.set_cons_succ]
      refine wpAnyH_ready (rs := [1]) (by kernel_rfl) (by simp) ?_
      refine AllReadyH.cons (o := { dst := some 61, op := Op.load 28 (Operand.tmp 60), type := 28, pos := "ref.go:179", after := #[{ on := 0, ground := Ground.data }], guard := none }) rfl (fun K hK => ?_) AllReadyH.nil
      go_simp; refine hK.out _ _ trivial (fun hHeld => ?_)
      clear hK K
      try simp only [Act.put, List.setIfInBounds_toArray, List.set_cons_zero, List.set_cons_succ]
      refine wpAnyH_take (i := 13) (oi := { dst := some 73, op := Op.indexAddr 28 (Operand.tmp 61) (Operand.tmp 62), type := 0, pos := "ref.go:179", after := #[{ on := 1, ground := Ground.data }, { on := 2, ground := Ground.data }, { on := 0, ground := Ground.phase }, { on := 1, ground := Ground.phase }, { on := 2, ground := Ground.phase }, { on := 3, ground := Ground.phase }, { on := 4, ground := Ground.phase }, { on := 5, ground := Ground.phase }, { on := 6, ground := Ground.phase }, { on := 7, ground := Ground.phase }, { on := 8, ground := Ground.phase }, { on := 9, ground := Ground.phase }, { on := 10, ground := Ground.phase }, { on := 11, ground := Ground.phase }, { on := 12, ground := Ground.phase }], guard := none }) (v := ?pebcbbbv13) rfl (by kernel_rfl) (by kernel_rfl) (by kernel_rfl) (fun _ _ _ h => h) (Or.inl ⟨by rfl, ?pebcbbbh13⟩) (by assumption) ?pebcbbbr13
      case pebcbbbh13 => ((intro w hSw; (try dsimp only at hSw); go_simp); try with_reducible rfl)
      try simp only [Act.put, List.setIfInBounds_toArray, List.set_cons_zero, List.set_cons_succ]
      refine wpAnyH_take (i := 14) (oi := { dst := some 74, op := Op.fieldAddr 50 (Operand.tmp 73) 3, type := 0, pos := "ref.go:179", after := #[{ on := 13, ground := Ground.data }, { on := 0, ground := Ground.phase }, { on := 1, ground := Ground.phase }, { on := 2, ground := Ground.phase }, { on := 3, ground := Ground.phase }, { on := 4, ground := Ground.phase }, { on := 5, ground := Ground.phase }, { on := 6, ground := Ground.phase }, { on := 7, ground := Ground.phase }, { on := 8, ground := Ground.phase }, { on := 9, ground := Ground.phase }, { on := 10, ground := Ground.phase }, { on := 11, ground := Ground.phase }, { on := 12, ground := Ground.phase }], guard := none }) (v := ?pebcbbbv14) rfl (by kernel_rfl) (by kernel_rfl) (by kernel_rfl) (fun _ _ _ h => h) (Or.inl ⟨by rfl, ?pebcbbbh14⟩) (by assumption) ?pebcbbbr14
      case pebcbbbh14 => ((intro w hSw; (try dsimp only at hSw); go_simp); try with_reducible rfl)
      try simp only [Act.put, List.setIfInBounds_toArray, List.set_cons_zero, List.set_cons_succ]
      refine wpAnyH_ready (rs := [15]) (by kernel_rfl) (by simp) ?_
      refine AllReadyH.cons (o := { dst := none, op := Op.store 48 (Operand.tmp 74) (Operand.tmp 72), type := 0, pos := "ref.go:179", after := #[{ on := 14, ground := Ground.data }, { on := 12, ground := Ground.data }, { on := 12, ground := Ground.chain }, { on := 0, ground := Ground.phase }, { on := 1, ground := Ground.phase }, { on := 2, ground := Ground.phase }, { on := 3, ground := Ground.phase }, { on := 4, ground := Ground.phase }, { on := 5, ground := Ground.phase }, { on := 6, ground := Ground.phase }, { on := 7, ground := Ground.phase }, { on := 8, ground := Ground.phase }, { on := 9, ground := Ground.phase }, { on := 10, ground := Ground.phase }, { on := 11, ground := Ground.phase }, { on := 12, ground := Ground.phase }], guard := none }) rfl (fun K hK => ?_) AllReadyH.nil
      go_simp; refine hK.out _ _ trivial (fun hHeld => ?_)
      clear hK K
      try simp only [Act.put, List.setIfInBounds_toArray, List.set_cons_zero, List.set_cons_succ]
      refine wpAnyH_done (by kernel_rfl) ?_ _
      go_wp2_with fail
      obtain ⟨X5, h5⟩ := HF5.out
      exact ⟨⟨j + 1, by omega, by go_num, X5, _, _, h5⟩, by simp [intOf]; omega⟩
     refine AllReadyH.cons (o := { dst := some 71, op := Op.call { callee := Callee.value (Operand.func 51), args := #[Operand.tmp 70], argTypes := #[48] }, type := 48, pos := "ref.go:179", after := #[{ on := 10, ground := Ground.data }], guard := none }) rfl (fun K hK => ?_) AllReadyH.nil
     go_simp; go_at_call 51; (with_reducible refine HCP.out.mono ?_); rintro e w2 ⟨⟨v, xs, rfl, hxo, hxp, hxk⟩, hb2⟩; rw [← HNQ.out] at hxo; obtain ⟨cp2, cc2, rfl, hxr, hxn⟩ := own_sh hxo; have ob2 := (hb2.cell (p := ⟨w0.heap.size, 0, none⟩) hg4l).trans ob0; have hg2 := (hb2.cell (p := ⟨g4, i * 4 + 3, none⟩) hgl).trans hg3; have HB2 := hid hb2; have HXP := hid hxp; have HXK := hid hxk; have HXR := hid hxr; clear hxo hb2 hxp hxk hxr; refine hK.out _ _ trivial (fun hHeld => ?_)
     clear hK K
     try simp only [Act.put, List.setIfInBounds_toArray, List.set_cons_zero, List.set_cons_succ]
     refine wpAnyH_ready (rs := [1, 8]) (by kernel_rfl) (by simp) ?_
     refine AllReadyH.cons (o := { dst := some 61, op := Op.load 28 (Operand.tmp 60), type := 28, pos := "ref.go:179", after := #[{ on := 0, ground := Ground.data }], guard := none }) rfl (fun K hK => ?_) ?_
     ·go_simp; refine hK.out _ _ trivial (fun hHeld => ?_)
      clear hK K
      try simp only [Act.put, List.setIfInBounds_toArray, List.set_cons_zero, List.set_cons_succ]
      refine wpAnyH_ready (rs := [8]) (by kernel_rfl) (by simp) ?_
      refine AllReadyH.cons (o := { dst := some 68, op := Op.load 48 (Operand.tmp 67), type := 48, pos := "ref.go:179", after := #[{ on := 7, ground := Ground.data }], guard := none }) rfl (fun K hK => ?_) AllReadyH.nil
      go_simp; refine hK.out _ _ trivial (fun hHeld => ?_)
      clear hK K
      try simp only [Act.put, List.setIfInBounds_toArray, List.set_cons_zero, List.set_cons_succ]
      refine wpAnyH_ready (rs := [12]) (by kernel_rfl) (by simp) ?_
      refine AllReadyH.cons (o := { dst := some 72, op := Op.call { callee := Callee.builtin Builtin.append, args := #[Operand.tmp 68, Operand.tmp 71], argTypes := #[48, 48] }, type := 48, pos := "ref.go:179", after := #[{ on := 8, ground := Ground.data }, { on := 11, ground := Ground.data }, { on := 11, ground := Ground.chain }], guard := none }) rfl (fun K hK => ?_) AllReadyH.nil
      (refine step_appO EPiece rfl (.tmp 68) (.tmp 71) rfl W.heap.size (.slice zp zl.length zc) zl.length (zl.flatMap PcR.cells) rfl (own_below HZO.out HB2.out) cp2 NQ cc2 (xs.flatMap PcR.cells) rfl (HXO.out _ HXP.out) hxn HXR.out (fun v hv => by obtain ⟨t, -, h⟩ := List.mem_flatMap.1 hv; exact pcr_ones t v h) (by unfold maxLen; omega) (by omega) (Nat.le_trans hbwd HB2.out.size) ?_); intro v5 w5 ho5 hg5 hs5; obtain ⟨p5, c5, rfl, -⟩ := own_shape ho5; obtain ⟨t3, t4, t5⟩ := HG4.out _ _ HB2.out hg5; have HF5 := hid (HFIN.out _ _ _ _ _ HB2.out HXP.out HXK.out ho5 hg5 hs5); clear ho5 hg5 hs5; refine hK.out _ _ trivial (fun hHeld => ?_)
      clear hK K
      try simp only [Act.put, List.setIfInBounds_toArray, List.set_cons_zero, List.set_cons_succ]
      refine wpAnyH_take (i := 13) (oi := { dst := some 73, op := Op.indexAddr 28 (Operand.tmp 61) (Operand.tmp 62), type := 0, pos := "ref.go:179", after := #[{ on := 1, ground := Ground.data }, { on := 2, ground := Ground.data }, { on := 0, ground := Ground.phase }, { on := 1, ground := Ground.phase }, { on := 2, ground := Ground.phase }, { on := 3, ground := Ground.phase }, { on := 4, ground := Ground.phase }, { on := 5, ground := Ground.phase }, { on := 6, ground := Ground.phase }, { on := 7, ground := Ground.phase }, { on := 8, ground := Ground.phase }, { on := 9, ground := Ground.phase }, { on := 10, ground := Ground.phase }, { on := 11, ground := Ground.phase }, { on := 12, ground := Ground.phase }], guard := none }) (v := ?pebccav13) rfl (by kernel_rfl) (by kernel_rfl) (by kernel_rfl) (fun _ _ _ h => h) (Or.inl ⟨by rfl, ?pebccah13⟩) (by assumption) ?pebccar13
      case pebccah13 => ((intro w hSw; (try dsimp only at hSw); go_simp); try with_reducible rfl)
      try simp only [Act.put, List.setIfInBounds_toArray, List.set_cons_zero, List.set_cons_succ]
      refine wpAnyH_take (i := 14) (oi := { dst := some 74, op := Op.fieldAddr 50 (Operand.tmp 73) 3, type := 0, pos := "ref.go:179", after := #[{ on := 13, ground := Ground.data }, { on := 0, ground := Ground.phase }, { on := 1, ground := Ground.phase }, { on := 2, ground := Ground.phase }, { on := 3, ground := Ground.phase }, { on := 4, ground := Ground.phase }, { on := 5, ground := Ground.phase }, { on := 6, ground := Ground.phase }, { on := 7, ground := Ground.phase }, { on := 8, ground := Ground.phase }, { on := 9, ground := Ground.phase }, { on := 10, ground := Ground.phase }, { on := 11, ground := Ground.phase }, { on := 12, ground := Ground.phase }], guard := none }) (v := ?pebccav14) rfl (by kernel_rfl) (by kernel_rfl) (by kernel_rfl) (fun _ _ _ h => h) (Or.inl ⟨by rfl, ?pebccah14⟩) (by assumption) ?pebccar14
      case pebccah14 => ((intro w hSw; (try dsimp only at hSw); go_simp); try with_reducible rfl)
      try simp only [Act.put, List.setIfInBounds_toArray, List.set_cons_zero, List.set_cons_succ]
      refine wpAnyH_ready (rs := [15]) (by kernel_rfl) (by simp) ?_
      refine AllReadyH.cons (o := { dst := none, op := Op.store 48 (Operand.tmp 74) (Operand.tmp 72), type := 0, pos := "ref.go:179", after := #[{ on := 14, ground := Ground.data }, { on := 12, ground := Ground.data }, { on := 12, ground := Ground.chain }, { on := 0, ground := Ground.phase }, { on := 1, ground := Ground.phase }, { on := 2, ground := Ground.phase }, { on := 3, ground := Ground.phase }, { on := 4, ground := Ground.phase }, { on := 5, ground := Ground.phase }, { on := 6, ground := Ground.phase }, { on := 7, ground := Ground.phase }, { on := 8, ground := Ground.phase }, { on := 9, ground := Ground.phase }, { on := 10, ground := Ground.phase }, { on := 11, ground := Ground.phase }, { on := 12, ground := Ground.phase }], guard := none }) rfl (fun K hK => ?_) AllReadyH.nil
      go_simp; refine hK.out _ _ trivial (fun hHeld => ?_)
      clear hK K
      try simp only [Act.put, List.setIfInBounds_toArray, List.set_cons_zero, List.set_cons_succ]
      refine wpAnyH_done (by kernel_rfl) ?_ _
      go_wp2_with fail
      obtain ⟨X5, h5⟩ := HF5.out
      exact ⟨⟨j + 1, by omega, by go_num, X5, _, _, h5⟩, by simp [intOf]; omega⟩
     refine AllReadyH.cons (o := { dst := some 68, op := Op.load 48 (Operand.tmp 67), type := 48, pos := "ref.go:179", after := #[{ on := 7, ground := Ground.data }], guard := none }) rfl (fun K hK => ?_) AllReadyH.nil
     go_simp; refine hK.out _ _ trivial (fun hHeld => ?_)
     clear hK K
     try simp only [Act.put, List.setIfInBounds_toArray, List.set_cons_zero, List.set_cons_succ]
     refine wpAnyH_ready (rs := [1, 12]) (by kernel_rfl) (by simp) ?_
     refine AllReadyH.cons (o := { dst := some 61, op := Op.load 28 (Operand.tmp 60), type := 28, pos := "ref.go:179", after := #[{ on := 0, ground := Ground.data }], guard := none }) rfl (fun K hK => ?_) ?_
     ·go_simp; refine hK.out _ _ trivial (fun hHeld => ?_)
      clear hK K
      try simp only [Act.put, List.setIfInBounds_toArray, List.set_cons_zero, List.set_cons_succ]
      refine wpAnyH_ready (rs := [12]) (by kernel_rfl) (by simp) ?_
      refine AllReadyH.cons (o := { dst := some 72, op := Op.call { callee := Callee.builtin Builtin.append, args := #[Operand.tmp 68, Operand.tmp 71], argTypes := #[48, 48] }, type := 48, pos := "ref.go:179", after := #[{ on := 8, ground := Ground.data }, { on := 11, ground := Ground.data }, { on := 11, ground := Ground.chain }], guard := none }) rfl (fun K hK => ?_) AllReadyH.nil
      (refine step_appO EPiece rfl (.tmp 68) (.tmp 71) rfl W.heap.size (.slice zp zl.length zc) zl.length (zl.flatMap PcR.cells) rfl (own_below HZO.out HB2.out) cp2 NQ cc2 (xs.flatMap PcR.cells) rfl (HXO.out _ HXP.out) hxn HXR.out (fun v hv => by obtain ⟨t, -, h⟩ := List.mem_flatMap.1 hv; exact pcr_ones t v h) (by unfold maxLen; omega) (by omega) (Nat.le_trans hbwd HB2.out.size) ?_); intro v5 w5 ho5 hg5 hs5; obtain ⟨p5, c5, rfl, -⟩ := own_shape ho5; obtain ⟨t3, t4, t5⟩ := HG4.out _ _ HB2.out hg5; have HF5 := hid (HFIN.out _ _ _ _ _ HB2.out HXP.out HXK.out ho5 hg5 hs5); clear ho5 hg5 hs5; refine hK.out _ _ trivial (fun hHeld => ?_)
      clear hK K
      try simp only [Act.put, List.setIfInBounds_toArray, List.set_cons_zero, List.set_cons_succ]
      refine wpAnyH_take (i := 13) (oi := { dst := some 73, op := Op.indexAddr 28 (Operand.tmp 61) (Operand.tmp 62), type := 0, pos := "ref.go:179", after := #[{ on := 1, ground := Ground.data }, { on := 2, ground := Ground.data }, { on := 0, ground := Ground.phase }, { on := 1, ground := Ground.phase }, { on := 2, ground := Ground.phase }, { on := 3, ground := Ground.phase }, { on := 4, ground := Ground.phase }, { on := 5, ground := Ground.phase }, { on := 6, ground := Ground.phase }, { on := 7, ground := Ground.phase }, { on := 8, ground := Ground.phase }, { on := 9, ground := Ground.phase }, { on := 10, ground := Ground.phase }, { on := 11, ground := Ground.phase }, { on := 12, ground := Ground.phase }], guard := none }) (v := ?pebccbav13) rfl (by kernel_rfl) (by kernel_rfl) (by kernel_rfl) (fun _ _ _ h => h) (Or.inl ⟨by rfl, ?pebccbah13⟩) (by assumption) ?pebccbar13
      case pebccbah13 => ((intro w hSw; (try dsimp only at hSw); go_simp); try with_reducible rfl)
      try simp only [Act.put, List.setIfInBounds_toArray, List.set_cons_zero, List.set_cons_succ]
      refine wpAnyH_take (i := 14) (oi := { dst := some 74, op := Op.fieldAddr 50 (Operand.tmp 73) 3, type := 0, pos := "ref.go:179", after := #[{ on := 13, ground := Ground.data }, { on := 0, ground := Ground.phase }, { on := 1, ground := Ground.phase }, { on := 2, ground := Ground.phase }, { on := 3, ground := Ground.phase }, { on := 4, ground := Ground.phase }, { on := 5, ground := Ground.phase }, { on := 6, ground := Ground.phase }, { on := 7, ground := Ground.phase }, { on := 8, ground := Ground.phase }, { on := 9, ground := Ground.phase }, { on := 10, ground := Ground.phase }, { on := 11, ground := Ground.phase }, { on := 12, ground := Ground.phase }], guard := none }) (v := ?pebccbav14) rfl (by kernel_rfl) (by kernel_rfl) (by kernel_rfl) (fun _ _ _ h => h) (Or.inl ⟨by rfl, ?pebccbah14⟩) (by assumption) ?pebccbar14
      case pebccbah14 => ((intro w hSw; (try dsimp only at hSw); go_simp); try with_reducible rfl)
      try simp only [Act.put, List.setIfInBounds_toArray, List.set_cons_zero, List.set_cons_succ]
      refine wpAnyH_ready (rs := [15]) (by kernel_rfl) (by simp) ?_
      refine AllReadyH.cons (o := { dst := none, op := Op.store 48 (Operand.tmp 74) (Operand.tmp 72), type := 0, pos := "ref.go:179", after := #[{ on := 14, ground := Ground.data }, { on := 12, ground := Ground.data }, { on := 12, ground := Ground.chain }, { on := 0, ground := Ground.phase }, { on := 1, ground := Ground.phase }, { on := 2, ground := Ground.phase }, { on := 3, ground := Ground.phase }, { on := 4, ground := Ground.phase }, { on := 5, ground := Ground.phase }, { on := 6, ground := Ground.phase }, { on := 7, ground := Ground.phase }, { on := 8, ground := Ground.phase }, { on := 9, ground := Ground.phase }, { on := 10, ground := Ground.phase }, { on := 11, ground := Ground.phase }, { on := 12, ground := Ground.phase }], guard := none }) rfl (fun K hK => ?_) AllReadyH.nil
      go_simp; refine hK.out _ _ trivial (fun hHeld => ?_)
      clear hK K
      try simp only [Act.put, List.setIfInBounds_toArray, List.set_cons_zero, List.set_cons_succ]
      refine wpAnyH_done (by kernel_rfl) ?_ _
      go_wp2_with fail
      obtain ⟨X5, h5⟩ := HF5.out
      exact ⟨⟨j + 1, by omega, by go_num, X5, _, _, h5⟩, by simp [intOf]; omega⟩
     refine AllReadyH.cons (o := { dst := some 72, op := Op.call { callee := Callee.builtin Builtin.append, args := #[Operand.tmp 68, Operand.tmp 71], argTypes := #[48, 48] }, type := 48, pos := "ref.go:179", after := #[{ on := 8, ground := Ground.data }, { on := 11, ground := Ground.data }, { on := 11, ground := Ground.chain }], guard := none }) rfl (fun K hK => ?_) AllReadyH.nil
     (refine step_appO EPiece rfl (.tmp 68) (.tmp 71) rfl W.heap.size (.slice zp zl.length zc) zl.length (zl.flatMap PcR.cells) rfl (own_below HZO.out HB2.out) cp2 NQ cc2 (xs.flatMap PcR.cells) rfl (HXO.out _ HXP.out) hxn HXR.out (fun v hv => by obtain ⟨t, -, h⟩ := List.mem_flatMap.1 hv; exact pcr_ones t v h) (by unfold maxLen; omega) (by omega) (Nat.le_trans hbwd HB2.out.size) ?_); intro v5 w5 ho5 hg5 hs5; obtain ⟨p5, c5, rfl, -⟩ := own_shape ho5; obtain ⟨t3, t4, t5⟩ := HG4.out _ _ HB2.out hg5; have HF5 := hid (HFIN.out _ _ _ _ _ HB2.out HXP.out HXK.out ho5 hg5 hs5); clear ho5 hg5 hs5; refine hK.out _ _ trivial (fun hHeld => ?_)
     clear hK K
     try simp only [Act.put, List.setIfInBounds_toArray, List.set_cons_zero, List.set_cons_succ]
     refine wpAnyH_ready (rs := [1]) (by kernel_rfl) (by simp) ?_
     refine AllReadyH.cons (o := { dst := some 61, op := Op.load 28 (Operand.tmp 60), type := 28, pos := "ref.go:179", after := #[{ on := 0, ground := Ground.data }], guard := none }) rfl (fun K hK => ?_) AllReadyH.nil
     go_simp; refine hK.out _ _ trivial (fun hHeld => ?_)
     clear hK K
     try simp only [Act.put, List.setIfInBounds_toArray, List.set_cons_zero, List.set_cons_succ]
     refine wpAnyH_take (i := 13) (oi := { dst := some 73, op := Op.indexAddr 28 (Operand.tmp 61) (Operand.tmp 62), type := 0, pos := "ref.go:179", after := #[{ on := 1, ground := Ground.data }, { on := 2, ground := Ground.data }, { on := 0, ground := Ground.phase }, { on := 1, ground := Ground.phase }, { on := 2, ground := Ground.phase }, { on := 3, ground := Ground.phase }, { on := 4, ground := Ground.phase }, { on := 5, ground := Ground.phase }, { on := 6, ground := Ground.phase }, { on := 7, ground := Ground.phase }, { on := 8, ground := Ground.phase }, { on := 9, ground := Ground.phase }, { on := 10, ground := Ground.phase }, { on := 11, ground := Ground.phase }, { on := 12, ground := Ground.phase }], guard := none }) (v := ?pebccbbv13) rfl (by kernel_rfl) (by kernel_rfl) (by kernel_rfl) (fun _ _ _ h => h) (Or.inl ⟨by rfl, ?pebccbbh13⟩) (by assumption) ?pebccbbr13
     case pebccbbh13 => ((intro w hSw; (try dsimp only at hSw); go_simp); try with_reducible rfl)
     try simp only [Act.put, List.setIfInBounds_toArray, List.set_cons_zero, List.set_cons_succ]
     refine wpAnyH_take (i := 14) (oi := { dst := some 74, op := Op.fieldAddr 50 (Operand.tmp 73) 3, type := 0, pos := "ref.go:179", after := #[{ on := 13, ground := Ground.data }, { on := 0, ground := Ground.phase }, { on := 1, ground := Ground.phase }, { on := 2, ground := Ground.phase }, { on := 3, ground := Ground.phase }, { on := 4, ground := Ground.phase }, { on := 5, ground := Ground.phase }, { on := 6, ground := Ground.phase }, { on := 7, ground := Ground.phase }, { on := 8, ground := Ground.phase }, { on := 9, ground := Ground.phase }, { on := 10, ground := Ground.phase }, { on := 11, ground := Ground.phase }, { on := 12, ground := Ground.phase }], guard := none }) (v := ?pebccbbv14) rfl (by kernel_rfl) (by kernel_rfl) (by kernel_rfl) (fun _ _ _ h => h) (Or.inl ⟨by rfl, ?pebccbbh14⟩) (by assumption) ?pebccbbr14
     case pebccbbh14 => ((intro w hSw; (try dsimp only at hSw); go_simp); try with_reducible rfl)
     try simp only [Act.put, List.setIfInBounds_toArray, List.set_cons_zero, List.set_cons_succ]
     refine wpAnyH_ready (rs := [15]) (by kernel_rfl) (by simp) ?_
     refine AllReadyH.cons (o := { dst := none, op := Op.store 48 (Operand.tmp 74) (Operand.tmp 72), type := 0, pos := "ref.go:179", after := #[{ on := 14, ground := Ground.data }, { on := 12, ground := Ground.data }, { on := 12, ground := Ground.chain }, { on := 0, ground := Ground.phase }, { on := 1, ground := Ground.phase }, { on := 2, ground := Ground.phase }, { on := 3, ground := Ground.phase }, { on := 4, ground := Ground.phase }, { on := 5, ground := Ground.phase }, { on := 6, ground := Ground.phase }, { on := 7, ground := Ground.phase }, { on := 8, ground := Ground.phase }, { on := 9, ground := Ground.phase }, { on := 10, ground := Ground.phase }, { on := 11, ground := Ground.phase }, { on := 12, ground := Ground.phase }], guard := none }) rfl (fun K hK => ?_) AllReadyH.nil
     go_simp; refine hK.out _ _ trivial (fun hHeld => ?_)
     clear hK K
     try simp only [Act.put, List.setIfInBounds_toArray, List.set_cons_zero, List.set_cons_succ]
     refine wpAnyH_done (by kernel_rfl) ?_ _
     go_wp2_with fail
     obtain ⟨X5, h5⟩ := HF5.out
     exact ⟨⟨j + 1, by omega, by go_num, X5, _, _, h5⟩, by simp [intOf]; omega⟩
    refine AllReadyH.cons (o := { dst := some 70, op := Op.load 48 (Operand.tmp 69), type := 48, pos := "ref.go:179", after := #[{ on := 9, ground := Ground.data }], guard := none }) rfl (fun K hK => ?_) AllReadyH.nil
    go_simp; refine hK.out _ _ trivial (fun hHeld => ?_)
    clear hK K
    try simp only [Act.put, List.setIfInBounds_toArray, List.set_cons_zero, List.set_cons_succ]
    refine wpAnyH_ready (rs := [1, 4, 11]) (by kernel_rfl) (by simp) ?_
    refine AllReadyH.cons (o := { dst := some 61, op := Op.load 28 (Operand.tmp 60), type := 28, pos := "ref.go:179", after := #[{ on := 0, ground := Ground.data }], guard := none }) rfl (fun K hK => ?_) ?_
    ·go_simp; refine hK.out _ _ trivial (fun hHeld => ?_)
     clear hK K
     try simp only [Act.put, List.setIfInBounds_toArray, List.set_cons_zero, List.set_cons_succ]
     refine wpAnyH_ready (rs := [4, 11]) (by kernel_rfl) (by simp) ?_
     refine AllReadyH.cons (o := { dst := some 64, op := Op.load 28 (Operand.tmp 63), type := 28, pos := "ref.go:179", after := #[{ on := 3, ground := Ground.data }], guard := none }) rfl (fun K hK => ?_) ?_
     ·go_simp; refine hK.out _ _ trivial (fun hHeld => ?_)
      clear hK K
      try simp only [Act.put, List.setIfInBounds_toArray, List.set_cons_zero, List.set_cons_succ]
      refine wpAnyH_take (i := 6) (oi := { dst := some 66, op := Op.indexAddr 28 (Operand.tmp 64) (Operand.tmp 65), type := 0, pos := "ref.go:179", after := #[{ on := 4, ground := Ground.data }, { on := 5, ground := Ground.data }], guard := none }) (v := ?pecaav6) rfl (by kernel_rfl) (by kernel_rfl) (by kernel_rfl) (fun _ _ _ h => h) (Or.inl ⟨by rfl, ?pecaah6⟩) (by assumption) ?pecaar6
      case pecaah6 => ((intro w hSw; (try dsimp only at hSw); go_simp); try with_reducible rfl)
      try simp only [Act.put, List.setIfInBounds_toArray, List.set_cons_zero, List.set_cons_succ]
      refine wpAnyH_take (i := 7) (oi := { dst := some 67, op := Op.fieldAddr 50 (Operand.tmp 66) 3, type := 0, pos := "ref.go:179", after := #[{ on := 6, ground := Ground.data }], guard := none }) (v := ?pecaav7) rfl (by kernel_rfl) (by kernel_rfl) (by kernel_rfl) (fun _ _ _ h => h) (Or.inl ⟨by rfl, ?pecaah7⟩) (by assumption) ?pecaar7
      case pecaah7 => ((intro w hSw; (try dsimp only at hSw); go_simp); try with_reducible rfl)
      try simp only [Act.put, List.setIfInBounds_toArray, List.set_cons_zero, List.set_cons_succ]
      refine wpAnyH_ready (rs := [8, 11]) (by kernel_rfl) (by simp) ?_
      refine AllReadyH.cons (o := { dst := some 68, op := Op.load 48 (Operand.tmp 67), type := 48, pos := "ref.go:179", after := #[{ on := 7, ground := Ground.data }], guard := none }) rfl (fun K hK => ?_) ?_
      ·go_simp; refine hK.out _ _ trivial (fun hHeld => ?_)
       clear hK K
       try simp only [Act.put, List.setIfInBounds_toArray, List.set_cons_zero, List.set_cons_succ]
       refine wpAnyH_ready (rs := [11]) (by kernel_rfl) (by simp) ?_
       refine AllReadyH.cons (o := { dst := some 71, op := Op.call { callee := Callee.value (Operand.func 51), args := #[Operand.tmp 70], argTypes := #[48] }, type := 48, pos := "ref.go:179", after := #[{ on := 10, ground := Ground.data }], guard := none }) rfl (fun K hK => ?_) AllReadyH.nil
       go_simp; go_at_call 51; (with_reducible refine HCP.out.mono ?_); rintro e w2 ⟨⟨v, xs, rfl, hxo, hxp, hxk⟩, hb2⟩; rw [← HNQ.out] at hxo; obtain ⟨cp2, cc2, rfl, hxr, hxn⟩ := own_sh hxo; have ob2 := (hb2.cell (p := ⟨w0.heap.size, 0, none⟩) hg4l).trans ob0; have hg2 := (hb2.cell (p := ⟨g4, i * 4 + 3, none⟩) hgl).trans hg3; have HB2 := hid hb2; have HXP := hid hxp; have HXK := hid hxk; have HXR := hid hxr; clear hxo hb2 hxp hxk hxr; refine hK.out _ _ trivial (fun hHeld => ?_)
       clear hK K
       try simp only [Act.put, List.setIfInBounds_toArray, List.set_cons_zero, List.set_cons_succ]
       refine wpAnyH_ready (rs := [12]) (by kernel_rfl) (by simp) ?_
       refine AllReadyH.cons (o := { dst := some 72, op := Op.call { callee := Callee.builtin Builtin.append, args := #[Operand.tmp 68, Operand.tmp 71], argTypes := #[48, 48] }, type := 48, pos := "ref.go:179", after := #[{ on := 8, ground := Ground.data }, { on := 11, ground := Ground.data }, { on := 11, ground := Ground.chain }], guard := none }) rfl (fun K hK => ?_) AllReadyH.nil
       (refine step_appO EPiece rfl (.tmp 68) (.tmp 71) rfl W.heap.size (.slice zp zl.length zc) zl.length (zl.flatMap PcR.cells) rfl (own_below HZO.out HB2.out) cp2 NQ cc2 (xs.flatMap PcR.cells) rfl (HXO.out _ HXP.out) hxn HXR.out (fun v hv => by obtain ⟨t, -, h⟩ := List.mem_flatMap.1 hv; exact pcr_ones t v h) (by unfold maxLen; omega) (by omega) (Nat.le_trans hbwd HB2.out.size) ?_); intro v5 w5 ho5 hg5 hs5; obtain ⟨p5, c5, rfl, -⟩ := own_shape ho5; obtain ⟨t3, t4, t5⟩ := HG4.out _ _ HB2.out hg5; have HF5 := hid (HFIN.out _ _ _ _ _ HB2.out HXP.out HXK.out ho5 hg5 hs5); clear ho5 hg5 hs5; refine hK.out _ _ trivial (fun hHeld => ?_)
       clear hK K
       try simp only [Act.put, List.setIfInBounds_toArray, List.set_cons_zero, List.set_cons_succ]
       refine wpAnyH_take (i := 13) (oi := { dst := some 73, op := Op.indexAddr 28 (Operand.tmp 61) (Operand.tmp 62), type := 0, pos := "ref.go:179", after := #[{ on := 1, ground := Ground.data }, { on := 2, ground := Ground.data }, { on := 0, ground := Ground.phase }, { on := 1, ground := Ground.phase }, { on := 2, ground := Ground.phase }, { on := 3, ground := Ground.phase }, { on := 4, ground := Ground.phase }, { on := 5, ground := Ground.phase }, { on := 6, ground := Ground.phase }, { on := 7, ground := Ground.phase }, { on := 8, ground := Ground.phase }, { on := 9, ground := Ground.phase }, { on := 10, ground := Ground.phase }, { on := 11, ground := Ground.phase }, { on := 12, ground := Ground.phase }], guard := none }) (v := ?pecaaav13) rfl (by kernel_rfl) (by kernel_rfl) (by kernel_rfl) (fun _ _ _ h => h) (Or.inl ⟨by rfl, ?pecaaah13⟩) (by assumption) ?pecaaar13
       case pecaaah13 => ((intro w hSw; (try dsimp only at hSw); go_simp); try with_reducible rfl)
       try simp only [Act.put, List.setIfInBounds_toArray, List.set_cons_zero, List.set_cons_succ]
       refine wpAnyH_take (i := 14) (oi := { dst := some 74, op := Op.fieldAddr 50 (Operand.tmp 73) 3, type := 0, pos := "ref.go:179", after := #[{ on := 13, ground := Ground.data }, { on := 0, ground := Ground.phase }, { on := 1, ground := Ground.phase }, { on := 2, ground := Ground.phase }, { on := 3, ground := Ground.phase }, { on := 4, ground := Ground.phase }, { on := 5, ground := Ground.phase }, { on := 6, ground := Ground.phase }, { on := 7, ground := Ground.phase }, { on := 8, ground := Ground.phase }, { on := 9, ground := Ground.phase }, { on := 10, ground := Ground.phase }, { on := 11, ground := Ground.phase }, { on := 12, ground := Ground.phase }], guard := none }) (v := ?pecaaav14) rfl (by kernel_rfl) (by kernel_rfl) (by kernel_rfl) (fun _ _ _ h => h) (Or.inl ⟨by rfl, ?pecaaah14⟩) (by assumption) ?pecaaar14
       case pecaaah14 => ((intro w hSw; (try dsimp only at hSw); go_simp); try with_reducible rfl)
       try simp only [Act.put, List.setIfInBounds_toArray, List.set_cons_zero, List.set_cons_succ]
       refine wpAnyH_ready (rs := [15]) (by kernel_rfl) (by simp) ?_
       refine AllReadyH.cons (o := { dst := none, op := Op.store 48 (Operand.tmp 74) (Operand.tmp 72), type := 0, pos := "ref.go:179", after := #[{ on := 14, ground := Ground.data }, { on := 12, ground := Ground.data }, { on := 12, ground := Ground.chain }, { on := 0, ground := Ground.phase }, { on := 1, ground := Ground.phase }, { on := 2, ground := Ground.phase }, { on := 3, ground := Ground.phase }, { on := 4, ground := Ground.phase }, { on := 5, ground := Ground.phase }, { on := 6, ground := Ground.phase }, { on := 7, ground := Ground.phase }, { on := 8, ground := Ground.phase }, { on := 9, ground := Ground.phase }, { on := 10, ground := Ground.phase }, { on := 11, ground := Ground.phase }, { on := 12, ground := Ground.phase }], guard := none }) rfl (fun K hK => ?_) AllReadyH.nil
       go_simp; refine hK.out _ _ trivial (fun hHeld => ?_)
       clear hK K
       try simp only [Act.put, List.setIfInBounds_toArray, List.set_cons_zero, List.set_cons_succ]
       refine wpAnyH_done (by kernel_rfl) ?_ _
       go_wp2_with fail
       obtain ⟨X5, h5⟩ := HF5.out
       exact ⟨⟨j + 1, by omega, by go_num, X5, _, _, h5⟩, by simp [intOf]; omega⟩
      refine AllReadyH.cons (o := { dst := some 71, op := Op.call { callee := Callee.value (Operand.func 51), args := #[Operand.tmp 70], argTypes := #[48] }, type := 48, pos := "ref.go:179", after := #[{ on := 10, ground := Ground.data }], guard := none }) rfl (fun K hK => ?_) AllReadyH.nil
      go_simp; go_at_call 51; (with_reducible refine HCP.out.mono ?_); rintro e w2 ⟨⟨v, xs, rfl, hxo, hxp, hxk⟩, hb2⟩; rw [← HNQ.out] at hxo; obtain ⟨cp2, cc2, rfl, hxr, hxn⟩ := own_sh hxo; have ob2 := (hb2.cell (p := ⟨w0.heap.size, 0, none⟩) hg4l).trans ob0; have hg2 := (hb2.cell (p := ⟨g4, i * 4 + 3, none⟩) hgl).trans hg3; have HB2 := hid hb2; have HXP := hid hxp; have HXK := hid hxk; have HXR := hid hxr; clear hxo hb2 hxp hxk hxr; refine hK.out _ _ trivial (fun hHeld => ?_)
      clear hK K
      try simp only [Act.put, List.setIfInBounds_toArray, List.set_cons_zero, List.set_cons_succ]
      refine wpAnyH_ready (rs := [8]) (by kernel_rfl) (by simp) ?_
      refine AllReadyH.cons (o := { dst := some 68, op := Op.load 48 (Operand.tmp 67), type := 48, pos := "ref.go:179", after := #[{ on := 7, ground := Ground.data }], guard := none }) rfl (fun K hK => ?_) AllReadyH.nil
      go_simp; refine hK.out _ _ trivial (fun hHeld => ?_)
      clear hK K
      try simp only [Act.put, List.setIfInBounds_toArray, List.set_cons_zero, List.set_cons_succ]
      refine wpAnyH_ready (rs := [12]) (by kernel_rfl) (by simp) ?_
      refine AllReadyH.cons (o := { dst := some 72, op := Op.call { callee := Callee.builtin Builtin.append, args := #[Operand.tmp 68, Operand.tmp 71], argTypes := #[48, 48] }, type := 48, pos := "ref.go:179", after := #[{ on := 8, ground := Ground.data }, { on := 11, ground := Ground.data }, { on := 11, ground := Ground.chain }], guard := none }) rfl (fun K hK => ?_) AllReadyH.nil
      (refine step_appO EPiece rfl (.tmp 68) (.tmp 71) rfl W.heap.size (.slice zp zl.length zc) zl.length (zl.flatMap PcR.cells) rfl (own_below HZO.out HB2.out) cp2 NQ cc2 (xs.flatMap PcR.cells) rfl (HXO.out _ HXP.out) hxn HXR.out (fun v hv => by obtain ⟨t, -, h⟩ := List.mem_flatMap.1 hv; exact pcr_ones t v h) (by unfold maxLen; omega) (by omega) (Nat.le_trans hbwd HB2.out.size) ?_); intro v5 w5 ho5 hg5 hs5; obtain ⟨p5, c5, rfl, -⟩ := own_shape ho5; obtain ⟨t3, t4, t5⟩ := HG4.out _ _ HB2.out hg5; have HF5 := hid (HFIN.out _ _ _ _ _ HB2.out HXP.out HXK.out ho5 hg5 hs5); clear ho5 hg5 hs5; refine hK.out _ _ trivial (fun hHeld => ?_)
      clear hK K
      try simp only [Act.put, List.setIfInBounds_toArray, List.set_cons_zero, List.set_cons_succ]
      refine wpAnyH_take (i := 13) (oi := { dst := some 73, op := Op.indexAddr 28 (Operand.tmp 61) (Operand.tmp 62), type := 0, pos := "ref.go:179", after := #[{ on := 1, ground := Ground.data }, { on := 2, ground := Ground.data }, { on := 0, ground := Ground.phase }, { on := 1, ground := Ground.phase }, { on := 2, ground := Ground.phase }, { on := 3, ground := Ground.phase }, { on := 4, ground := Ground.phase }, { on := 5, ground := Ground.phase }, { on := 6, ground := Ground.phase }, { on := 7, ground := Ground.phase }, { on := 8, ground := Ground.phase }, { on := 9, ground := Ground.phase }, { on := 10, ground := Ground.phase }, { on := 11, ground := Ground.phase }, { on := 12, ground := Ground.phase }], guard := none }) (v := ?pecaabv13) rfl (by kernel_rfl) (by kernel_rfl) (by kernel_rfl) (fun _ _ _ h => h) (Or.inl ⟨by rfl, ?pecaabh13⟩) (by assumption) ?pecaabr13
      case pecaabh13 => ((intro w hSw; (try dsimp only at hSw); go_simp); try with_reducible rfl)
      try simp only [Act.put, List.setIfInBounds_toArray, List.set_cons_zero, List.set_cons_succ]
      refine wpAnyH_take (i := 14) (oi := { dst := some 74, op := Op.fieldAddr 50 (Operand.tmp 73) 3, type := 0, pos := "ref.go:179", after := #[{ on := 13, ground := Ground.data }, { on := 0, ground := Ground.phase }, { on := 1, ground := Ground.phase }, { on := 2, ground := Ground.phase }, { on := 3, ground := Ground.phase }, { on := 4, ground := Ground.phase }, { on := 5, ground := Ground.phase }, { on := 6, ground := Ground.phase }, { on := 7, ground := Ground.phase }, { on := 8, ground := Ground.phase }, { on := 9, ground := Ground.phase }, { on := 10, ground := Ground.phase }, { on := 11, ground := Ground.phase }, { on := 12, ground := Ground.phase }], guard := none }) (v := ?pecaabv14) rfl (by kernel_rfl) (by kernel_rfl) (by kernel_rfl) (fun _ _ _ h => h) (Or.inl ⟨by rfl, ?pecaabh14⟩) (by assumption) ?pecaabr14
      case pecaabh14 => ((intro w hSw; (try dsimp only at hSw); go_simp); try with_reducible rfl)
      try simp only [Act.put, List.setIfInBounds_toArray, List.set_cons_zero, List.set_cons_succ]
      refine wpAnyH_ready (rs := [15]) (by kernel_rfl) (by simp) ?_
      refine AllReadyH.cons (o := { dst := none, op := Op.store 48 (Operand.tmp 74) (Operand.tmp 72), type := 0, pos := "ref.go:179", after := #[{ on := 14, ground := Ground.data }, { on := 12, ground := Ground.data }, { on := 12, ground := Ground.chain }, { on := 0, ground := Ground.phase }, { on := 1, ground := Ground.phase }, { on := 2, ground := Ground.phase }, { on := 3, ground := Ground.phase }, { on := 4, ground := Ground.phase }, { on := 5, ground := Ground.phase }, { on := 6, ground := Ground.phase }, { on := 7, ground := Ground.phase }, { on := 8, ground := Ground.phase }, { on := 9, ground := Ground.phase }, { on := 10, ground := Ground.phase }, { on := 11, ground := Ground.phase }, { on := 12, ground := Ground.phase }], guard := none }) rfl (fun K hK => ?_) AllReadyH.nil
      go_simp; refine hK.out _ _ trivial (fun hHeld => ?_)
      clear hK K
      try simp only [Act.put, List.setIfInBounds_toArray, List.set_cons_zero, List.set_cons_succ]
      refine wpAnyH_done (by kernel_rfl) ?_ _
      go_wp2_with fail
      obtain ⟨X5, h5⟩ := HF5.out
      exact ⟨⟨j + 1, by omega, by go_num, X5, _, _, h5⟩, by simp [intOf]; omega⟩
     refine AllReadyH.cons (o := { dst := some 71, op := Op.call { callee := Callee.value (Operand.func 51), args := #[Operand.tmp 70], argTypes := #[48] }, type := 48, pos := "ref.go:179", after := #[{ on := 10, ground := Ground.data }], guard := none }) rfl (fun K hK => ?_) AllReadyH.nil
     go_simp; go_at_call 51; (with_reducible refine HCP.out.mono ?_); rintro e w2 ⟨⟨v, xs, rfl, hxo, hxp, hxk⟩, hb2⟩; rw [← HNQ.out] at hxo; obtain ⟨cp2, cc2, rfl, hxr, hxn⟩ := own_sh hxo; have ob2 := (hb2.cell (p := ⟨w0.heap.size, 0, none⟩) hg4l).trans ob0; have hg2 := (hb2.cell (p := ⟨g4, i * 4 + 3, none⟩) hgl).trans hg3; have HB2 := hid hb2; have HXP := hid hxp; have HXK := hid hxk; have HXR := hid hxr; clear hxo hb2 hxp hxk hxr; refine hK.out _ _ trivial (fun hHeld => ?_)
     clear hK K
     try simp only [Act.put, List.setIfInBounds_toArray, List.set_cons_zero, List.set_cons_succ]
     refine wpAnyH_ready (rs := [4]) (by kernel_rfl) (by simp) ?_
     refine AllReadyH.cons (o := { dst := some 64, op := Op.load 28 (Operand.tmp 63), type := 28, pos := "ref.go:179", after := #[{ on := 3, ground := Ground.data }], guard := none }) rfl (fun K hK => ?_) AllReadyH.nil
     go_simp; refine hK.out _ _ trivial (fun hHeld => ?_)
     clear hK K
     try simp only [Act.put, List.setIfInBounds_toArray, List.set_cons_zero, List.set_cons_succ]
     refine wpAnyH_take (i := 6) (oi := { dst := some 66, op := Op.indexAddr 28 (Operand.tmp 64) (Operand.tmp 65), type := 0, pos := "ref.go:179", after := #[{ on := 4, ground := Ground.data }, { on := 5, ground := Ground.data }], guard := none }) (v := ?pecabv6) rfl (by kernel_rfl) (by kernel_rfl) (by kernel_rfl) (fun _ _ _ h => h) (Or.inl ⟨by rfl, ?pecabh6⟩) (by assumption) ?pecabr6
     case pecabh6 => ((intro w hSw; (try dsimp only at hSw); go_simp); try with_reducible rfl)
     try simp only [Act.put, List.setIfInBounds_toArray, List.set_cons_zero, List.set_cons_succ]
     refine wpAnyH_take (i := 7) (oi := { dst := some 67, op := Op.fieldAddr 50 (Operand.tmp 66) 3, type := 0, pos := "ref.go:179", after := #[{ on := 6, ground := Ground.data }], guard := none }) (v := ?pecabv7) rfl (by kernel_rfl) (by kernel_rfl) (by kernel_rfl) (fun _ _ _ h => h) (Or.inl ⟨by rfl, ?pecabh7⟩) (by assumption) ?pecabr7
     case pecabh7 => ((intro w hSw; (try dsimp only at hSw); go_simp); try with_reducible rfl)
     try simp only [Act.put, List.setIfInBounds_toArray, List.set_cons_zero, List.set_cons_succ]
     refine wpAnyH_ready (rs := [8]) (by kernel_rfl) (by simp) ?_
     refine AllReadyH.cons (o := { dst := some 68, op := Op.load 48 (Operand.tmp 67), type := 48, pos := "ref.go:179", after := #[{ on := 7, ground := Ground.data }], guard := none }) rfl (fun K hK => ?_) AllReadyH.nil
     go_simp; refine hK.out _ _ trivial (fun hHeld => ?_)
     clear hK K
     try simp only [Act.put, List.setIfInBounds_toArray, List.set_cons_zero, List.set_cons_succ]
     refine wpAnyH_ready (rs := [12]) (by kernel_rfl) (by simp) ?_
     refine AllReadyH.cons (o := { dst := some 72, op := Op.call { callee := Callee.builtin Builtin.append, args := #[Operand.tmp 68, Operand.tmp 71], argTypes := #[48, 48] }, type := 48, pos := "ref.go:179", after := #[{ on := 8, ground := Ground.data }, { on := 11, ground := Ground.data }, { on := 11, ground := Ground.chain }], guard := none }) rfl (fun K hK => ?_) AllReadyH.nil
     (refine step_appO EPiece rfl (.tmp 68) (.tmp 71) rfl W.heap.size (.slice zp zl.length zc) zl.length (zl.flatMap PcR.cells) rfl (own_below HZO.out HB2.out) cp2 NQ cc2 (xs.flatMap PcR.cells) rfl (HXO.out _ HXP.out) hxn HXR.out (fun v hv => by obtain ⟨t, -, h⟩ := List.mem_flatMap.1 hv; exact pcr_ones t v h) (by unfold maxLen; omega) (by omega) (Nat.le_trans hbwd HB2.out.size) ?_); intro v5 w5 ho5 hg5 hs5; obtain ⟨p5, c5, rfl, -⟩ := own_shape ho5; obtain ⟨t3, t4, t5⟩ := HG4.out _ _ HB2.out hg5; have HF5 := hid (HFIN.out _ _ _ _ _ HB2.out HXP.out HXK.out ho5 hg5 hs5); clear ho5 hg5 hs5; refine hK.out _ _ trivial (fun hHeld => ?_)
     clear hK K
     try simp only [Act.put, List.setIfInBounds_toArray, List.set_cons_zero, List.set_cons_succ]
     refine wpAnyH_take (i := 13) (oi := { dst := some 73, op := Op.indexAddr 28 (Operand.tmp 61) (Operand.tmp 62), type := 0, pos := "ref.go:179", after := #[{ on := 1, ground := Ground.data }, { on := 2, ground := Ground.data }, { on := 0, ground := Ground.phase }, { on := 1, ground := Ground.phase }, { on := 2, ground := Ground.phase }, { on := 3, ground := Ground.phase }, { on := 4, ground := Ground.phase }, { on := 5, ground := Ground.phase }, { on := 6, ground := Ground.phase }, { on := 7, ground := Ground.phase }, { on := 8, ground := Ground.phase }, { on := 9, ground := Ground.phase }, { on := 10, ground := Ground.phase }, { on := 11, ground := Ground.phase }, { on := 12, ground := Ground.phase }], guard := none }) (v := ?pecabv13) rfl (by kernel_rfl) (by kernel_rfl) (by kernel_rfl) (fun _ _ _ h => h) (Or.inl ⟨by rfl, ?pecabh13⟩) (by assumption) ?pecabr13
     case pecabh13 => ((intro w hSw; (try dsimp only at hSw); go_simp); try with_reducible rfl)
     try simp only [Act.put, List.setIfInBounds_toArray, List.set_cons_zero, List.set_cons_succ]
     refine wpAnyH_take (i := 14) (oi := { dst := some 74, op := Op.fieldAddr 50 (Operand.tmp 73) 3, type := 0, pos := "ref.go:179", after := #[{ on := 13, ground := Ground.data }, { on := 0, ground := Ground.phase }, { on := 1, ground := Ground.phase }, { on := 2, ground := Ground.phase }, { on := 3, ground := Ground.phase }, { on := 4, ground := Ground.phase }, { on := 5, ground := Ground.phase }, { on := 6, ground := Ground.phase }, { on := 7, ground := Ground.phase }, { on := 8, ground := Ground.phase }, { on := 9, ground := Ground.phase }, { on := 10, ground := Ground.phase }, { on := 11, ground := Ground.phase }, { on := 12, ground := Ground.phase }], guard := none }) (v := ?pecabv14) rfl (by kernel_rfl) (by kernel_rfl) (by kernel_rfl) (fun _ _ _ h => h) (Or.inl ⟨by rfl, ?pecabh14⟩) (by assumption) ?pecabr14
     case pecabh14 => ((intro w hSw; (try dsimp only at hSw); go_simp); try with_reducible rfl)
     try simp only [Act.put, List.setIfInBounds_toArray, List.set_cons_zero, List.set_cons_succ]
     refine wpAnyH_ready (rs := [15]) (by kernel_rfl) (by simp) ?_
     refine AllReadyH.cons (o := { dst := none, op := Op.store 48 (Operand.tmp 74) (Operand.tmp 72), type := 0, pos := "ref.go:179", after := #[{ on := 14, ground := Ground.data }, { on := 12, ground := Ground.data }, { on := 12, ground := Ground.chain }, { on := 0, ground := Ground.phase }, { on := 1, ground := Ground.phase }, { on := 2, ground := Ground.phase }, { on := 3, ground := Ground.phase }, { on := 4, ground := Ground.phase }, { on := 5, ground := Ground.phase }, { on := 6, ground := Ground.phase }, { on := 7, ground := Ground.phase }, { on := 8, ground := Ground.phase }, { on := 9, ground := Ground.phase }, { on := 10, ground := Ground.phase }, { on := 11, ground := Ground.phase }, { on := 12, ground := Ground.phase }], guard := none }) rfl (fun K hK => ?_) AllReadyH.nil
     go_simp; refine hK.out _ _ trivial (fun hHeld => ?_)
     clear hK K
     try simp only [Act.put, List.setIfInBounds_toArray, List.set_cons_zero, List.set_cons_succ]
     refine wpAnyH_done (by kernel_rfl) ?_ _
     go_wp2_with fail
     obtain ⟨X5, h5⟩ := HF5.out
     exact ⟨⟨j + 1, by omega, by go_num, X5, _, _, h5⟩, by simp [intOf]; omega⟩
    refine AllReadyH.cons (o := { dst := some 64, op := Op.load 28 (Operand.tmp 63), type := 28, pos := "ref.go:179", after := #[{ on := 3, ground := Ground.data }], guard := none }) rfl (fun K hK => ?_) ?_
    ·go_simp; refine hK.out _ _ trivial (fun hHeld => ?_)
     clear hK K
     try simp only [Act.put, List.setIfInBounds_toArray, List.set_cons_zero, List.set_cons_succ]
     refine wpAnyH_take (i := 6) (oi := { dst := some 66, op := Op.indexAddr 28 (Operand.tmp 64) (Operand.tmp 65), type := 0, pos := "ref.go:179", after := #[{ on := 4, ground := Ground.data }, { on := 5, ground := Ground.data }], guard := none }) (v := ?pecbv6) rfl (by kernel_rfl) (by kernel_rfl) (by kernel_rfl) (fun _ _ _ h => h) (Or.inl ⟨by rfl, ?pecbh6⟩) (by assumption) ?pecbr6
     case pecbh6 => ((intro w hSw; (try dsimp only at hSw); go_simp); try with_reducible rfl)
     try simp only [Act.put, List.setIfInBounds_toArray, List.set_cons_zero, List.set_cons_succ]
     refine wpAnyH_take (i := 7) (oi := { dst := some 67, op := Op.fieldAddr 50 (Operand.tmp 66) 3, type := 0, pos := "ref.go:179", after := #[{ on := 6, ground := Ground.data }], guard := none }) (v := ?pecbv7) rfl (by kernel_rfl) (by kernel_rfl) (by kernel_rfl) (fun _ _ _ h => h) (Or.inl ⟨by rfl, ?pecbh7⟩) (by assumption) ?pecbr7
     case pecbh7 => ((intro w hSw; (try dsimp only at hSw); go_simp); try with_reducible rfl)
     try simp only [Act.put, List.setIfInBounds_toArray, List.set_cons_zero, List.set_cons_succ]
     refine wpAnyH_ready (rs := [1, 8, 11]) (by kernel_rfl) (by simp) ?_
     refine AllReadyH.cons (o := { dst := some 61, op := Op.load 28 (Operand.tmp 60), type := 28, pos := "ref.go:179", after := #[{ on := 0, ground := Ground.data }], guard := none }) rfl (fun K hK => ?_) ?_
     ·go_simp; refine hK.out _ _ trivial (fun hHeld => ?_)
      clear hK K
      try simp only [Act.put, List.setIfInBounds_toArray, List.set_cons_zero, List.set_cons_succ]
      refine wpAnyH_ready (rs := [8, 11]) (by kernel_rfl) (by simp) ?_
      refine AllReadyH.cons (o := { dst := some 68, op := Op.load 48 (Operand.tmp 67), type := 48, pos := "ref.go:179", after := #[{ on := 7, ground := Ground.data }], guard := none }) rfl (fun K hK => ?_) ?_
      ·go_simp; refine hK.out _ _ trivial (fun hHeld => ?_)
       clear hK K
       try simp only [Act.put, List.setIfInBounds_toArray, List.set_cons_zero, List.set_cons_succ]
       refine wpAnyH_ready (rs := [11]) (by kernel_rfl) (by simp) ?_
       refine AllReadyH.cons (o := { dst := some 71, op := Op.call { callee := Callee.value (Operand.func 51), args := #[Operand.tmp 70], argTypes := #[48] }, type := 48, pos := "ref.go:179", after := #[{ on := 10, ground := Ground.data }], guard := none }) rfl (fun K hK => ?_) AllReadyH.nil
       go_simp; go_at_call 51; (with_reducible refine HCP.out.mono ?_); rintro e w2 ⟨⟨v, xs, rfl, hxo, hxp, hxk⟩, hb2⟩; rw [← HNQ.out] at hxo; obtain ⟨cp2, cc2, rfl, hxr, hxn⟩ := own_sh hxo; have ob2 := (hb2.cell (p := ⟨w0.heap.size, 0, none⟩) hg4l).trans ob0; have hg2 := (hb2.cell (p := ⟨g4, i * 4 + 3, none⟩) hgl).trans hg3; have HB2 := hid hb2; have HXP := hid hxp; have HXK := hid hxk; have HXR := hid hxr; clear hxo hb2 hxp hxk hxr; refine hK.out _ _ trivial (fun hHeld => ?_)
       clear hK K
       try simp only [Act.put, List.setIfInBounds_toArray, List.set_cons_zero, List.set_cons_succ]
       refine wpAnyH_ready (rs := [12]) (by kernel_rfl) (by simp) ?_
       refine AllReadyH.cons (o := { dst := some 72, op := Op.call { callee := Callee.builtin Builtin.append, args := #[Operand.tmp 68, Operand.tmp 71], argTypes := #[48, 48] }, type := 48, pos := "ref.go:179", after := #[{ on := 8, ground := Ground.data }, { on := 11, ground := Ground.data }, { on := 11, ground := Ground.chain }], guard := none }) rfl (fun K hK => ?_) AllReadyH.nil
       (refine step_appO EPiece rfl (.tmp 68) (.tmp 71) rfl W.heap.size (.slice zp zl.length zc) zl.length (zl.flatMap PcR.cells) rfl (own_below HZO.out HB2.out) cp2 NQ cc2 (xs.flatMap PcR.cells) rfl (HXO.out _ HXP.out) hxn HXR.out (fun v hv => by obtain ⟨t, -, h⟩ := List.mem_flatMap.1 hv; exact pcr_ones t v h) (by unfold maxLen; omega) (by omega) (Nat.le_trans hbwd HB2.out.size) ?_); intro v5 w5 ho5 hg5 hs5; obtain ⟨p5, c5, rfl, -⟩ := own_shape ho5; obtain ⟨t3, t4, t5⟩ := HG4.out _ _ HB2.out hg5; have HF5 := hid (HFIN.out _ _ _ _ _ HB2.out HXP.out HXK.out ho5 hg5 hs5); clear ho5 hg5 hs5; refine hK.out _ _ trivial (fun hHeld => ?_)
       clear hK K
       try simp only [Act.put, List.setIfInBounds_toArray, List.set_cons_zero, List.set_cons_succ]
       refine wpAnyH_take (i := 13) (oi := { dst := some 73, op := Op.indexAddr 28 (Operand.tmp 61) (Operand.tmp 62), type := 0, pos := "ref.go:179", after := #[{ on := 1, ground := Ground.data }, { on := 2, ground := Ground.data }, { on := 0, ground := Ground.phase }, { on := 1, ground := Ground.phase }, { on := 2, ground := Ground.phase }, { on := 3, ground := Ground.phase }, { on := 4, ground := Ground.phase }, { on := 5, ground := Ground.phase }, { on := 6, ground := Ground.phase }, { on := 7, ground := Ground.phase }, { on := 8, ground := Ground.phase }, { on := 9, ground := Ground.phase }, { on := 10, ground := Ground.phase }, { on := 11, ground := Ground.phase }, { on := 12, ground := Ground.phase }], guard := none }) (v := ?pecbaav13) rfl (by kernel_rfl) (by kernel_rfl) (by kernel_rfl) (fun _ _ _ h => h) (Or.inl ⟨by rfl, ?pecbaah13⟩) (by assumption) ?pecbaar13
       case pecbaah13 => ((intro w hSw; (try dsimp only at hSw); go_simp); try with_reducible rfl)
       try simp only [Act.put, List.setIfInBounds_toArray, List.set_cons_zero, List.set_cons_succ]
       refine wpAnyH_take (i := 14) (oi := { dst := some 74, op := Op.fieldAddr 50 (Operand.tmp 73) 3, type := 0, pos := "ref.go:179", after := #[{ on := 13, ground := Ground.data }, { on := 0, ground := Ground.phase }, { on := 1, ground := Ground.phase }, { on := 2, ground := Ground.phase }, { on := 3, ground := Ground.phase }, { on := 4, ground := Ground.phase }, { on := 5, ground := Ground.phase }, { on := 6, ground := Ground.phase }, { on := 7, ground := Ground.phase }, { on := 8, ground := Ground.phase }, { on := 9, ground := Ground.phase }, { on := 10, ground := Ground.phase }, { on := 11, ground := Ground.phase }, { on := 12, ground := Ground.phase }], guard := none }) (v := ?pecbaav14) rfl (by kernel_rfl) (by kernel_rfl) (by kernel_rfl) (fun _ _ _ h => h) (Or.inl ⟨by rfl, ?pecbaah14⟩) (by assumption) ?pecbaar14
       case pecbaah14 => ((intro w hSw; (try dsimp only at hSw); go_simp); try with_reducible rfl)
       try simp only [Act.put, List.setIfInBounds_toArray, List.set_cons_zero, List.set_cons_succ]
       refine wpAnyH_ready (rs := [15]) (by kernel_rfl) (by simp) ?_
       refine AllReadyH.cons (o := { dst := none, op := Op.store 48 (Operand.tmp 74) (Operand.tmp 72), type := 0, pos := "ref.go:179", after := #[{ on := 14, ground := Ground.data }, { on := 12, ground := Ground.data }, { on := 12, ground := Ground.chain }, { on := 0, ground := Ground.phase }, { on := 1, ground := Ground.phase }, { on := 2, ground := Ground.phase }, { on := 3, ground := Ground.phase }, { on := 4, ground := Ground.phase }, { on := 5, ground := Ground.phase }, { on := 6, ground := Ground.phase }, { on := 7, ground := Ground.phase }, { on := 8, ground := Ground.phase }, { on := 9, ground := Ground.phase }, { on := 10, ground := Ground.phase }, { on := 11, ground := Ground.phase }, { on := 12, ground := Ground.phase }], guard := none }) rfl (fun K hK => ?_) AllReadyH.nil
       go_simp; refine hK.out _ _ trivial (fun hHeld => ?_)
       clear hK K
       try simp only [Act.put, List.setIfInBounds_toArray, List.set_cons_zero, List.set_cons_succ]
       refine wpAnyH_done (by kernel_rfl) ?_ _
       go_wp2_with fail
       obtain ⟨X5, h5⟩ := HF5.out
       exact ⟨⟨j + 1, by omega, by go_num, X5, _, _, h5⟩, by simp [intOf]; omega⟩
      refine AllReadyH.cons (o := { dst := some 71, op := Op.call { callee := Callee.value (Operand.func 51), args := #[Operand.tmp 70], argTypes := #[48] }, type := 48, pos := "ref.go:179", after := #[{ on := 10, ground := Ground.data }], guard := none }) rfl (fun K hK => ?_) AllReadyH.nil
      go_simp; go_at_call 51; (with_reducible refine HCP.out.mono ?_); rintro e w2 ⟨⟨v, xs, rfl, hxo, hxp, hxk⟩, hb2⟩; rw [← HNQ.out] at hxo; obtain ⟨cp2, cc2, rfl, hxr, hxn⟩ := own_sh hxo; have ob2 := (hb2.cell (p := ⟨w0.heap.size, 0, none⟩) hg4l).trans ob0; have hg2 := (hb2.cell (p := ⟨g4, i * 4 + 3, none⟩) hgl).trans hg3; have HB2 := hid hb2; have HXP := hid hxp; have HXK := hid hxk; have HXR := hid hxr; clear hxo hb2 hxp hxk hxr; refine hK.out _ _ trivial (fun hHeld => ?_)
      clear hK K
      try simp only [Act.put, List.setIfInBounds_toArray, List.set_cons_zero, List.set_cons_succ]
      refine wpAnyH_ready (rs := [8]) (by kernel_rfl) (by simp) ?_
      refine AllReadyH.cons (o := { dst := some 68, op := Op.load 48 (Operand.tmp 67), type := 48, pos := "ref.go:179", after := #[{ on := 7, ground := Ground.data }], guard := none }) rfl (fun K hK => ?_) AllReadyH.nil
      go_simp; refine hK.out _ _ trivial (fun hHeld => ?_)
      clear hK K
      try simp only [Act.put, List.setIfInBounds_toArray, List.set_cons_zero, List.set_cons_succ]
      refine wpAnyH_ready (rs := [12]) (by kernel_rfl) (by simp) ?_
      refine AllReadyH.cons (o := { dst := some 72, op := Op.call { callee := Callee.builtin Builtin.append, args := #[Operand.tmp 68, Operand.tmp 71], argTypes := #[48, 48] }, type := 48, pos := "ref.go:179", after := #[{ on := 8, ground := Ground.data }, { on := 11, ground := Ground.data }, { on := 11, ground := Ground.chain }], guard := none }) rfl (fun K hK => ?_) AllReadyH.nil
      (refine step_appO EPiece rfl (.tmp 68) (.tmp 71) rfl W.heap.size (.slice zp zl.length zc) zl.length (zl.flatMap PcR.cells) rfl (own_below HZO.out HB2.out) cp2 NQ cc2 (xs.flatMap PcR.cells) rfl (HXO.out _ HXP.out) hxn HXR.out (fun v hv => by obtain ⟨t, -, h⟩ := List.mem_flatMap.1 hv; exact pcr_ones t v h) (by unfold maxLen; omega) (by omega) (Nat.le_trans hbwd HB2.out.size) ?_); intro v5 w5 ho5 hg5 hs5; obtain ⟨p5, c5, rfl, -⟩ := own_shape ho5; obtain ⟨t3, t4, t5⟩ := HG4.out _ _ HB2.out hg5; have HF5 := hid (HFIN.out _ _ _ _ _ HB2.out HXP.out HXK.out ho5 hg5 hs5); clear ho5 hg5 hs5; refine hK.out _ _ trivial (fun hHeld => ?_)
      clear hK K
      try simp only [Act.put, List.setIfInBounds_toArray, List.set_cons_zero, List.set_cons_succ]
      refine wpAnyH_take (i := 13) (oi := { dst := some 73, op := Op.indexAddr 28 (Operand.tmp 61) (Operand.tmp 62), type := 0, pos := "ref.go:179", after := #[{ on := 1, ground := Ground.data }, { on := 2, ground := Ground.data }, { on := 0, ground := Ground.phase }, { on := 1, ground := Ground.phase }, { on := 2, ground := Ground.phase }, { on := 3, ground := Ground.phase }, { on := 4, ground := Ground.phase }, { on := 5, ground := Ground.phase }, { on := 6, ground := Ground.phase }, { on := 7, ground := Ground.phase }, { on := 8, ground := Ground.phase }, { on := 9, ground := Ground.phase }, { on := 10, ground := Ground.phase }, { on := 11, ground := Ground.phase }, { on := 12, ground := Ground.phase }], guard := none }) (v := ?pecbabv13) rfl (by kernel_rfl) (by kernel_rfl) (by kernel_rfl) (fun _ _ _ h => h) (Or.inl ⟨by rfl, ?pecbabh13⟩) (by assumption) ?pecbabr13
      case pecbabh13 => ((intro w hSw; (try dsimp only at hSw); go_simp); try with_reducible rfl)
      try simp only [Act.put, List.setIfInBounds_toArray, List.set_cons_zero, List.set_cons_succ]
      refine wpAnyH_take (i := 14) (oi := { dst := some 74, op := Op.fieldAddr 50 (Operand.tmp 73) 3, type := 0, pos := "ref.go:179", after := #[{ on := 13, ground := Ground.data }, { on := 0, ground := Ground.phase }, { on := 1, ground := Ground.phase }, { on := 2, ground := Ground.phase }, { on := 3, ground := Ground.phase }, { on := 4, ground := Ground.phase }, { on := 5, ground := Ground.phase }, { on := 6, ground := Ground.phase }, { on := 7, ground := Ground.phase }, { on := 8, ground := Ground.phase }, { on := 9, ground := Ground.phase }, { on := 10, ground := Ground.phase }, { on := 11, ground := Ground.phase }, { on := 12, ground := Ground.phase }], guard := none }) (v := ?pecbabv14) rfl (by kernel_rfl) (by kernel_rfl) (by kernel_rfl) (fun _ _ _ h => h) (Or.inl ⟨by rfl, ?pecbabh14⟩) (by assumption) ?pecbabr14
      case pecbabh14 => ((intro w hSw; (try dsimp only at hSw); go_simp); try with_reducible rfl)
      try simp only [Act.put, List.setIfInBounds_toArray, List.set_cons_zero, List.set_cons_succ]
      refine wpAnyH_ready (rs := [15]) (by kernel_rfl) (by simp) ?_
      refine AllReadyH.cons (o := { dst := none, op := Op.store 48 (Operand.tmp 74) (Operand.tmp 72), type := 0, pos := "ref.go:179", after := #[{ on := 14, ground := Ground.data }, { on := 12, ground := Ground.data }, { on := 12, ground := Ground.chain }, { on := 0, ground := Ground.phase }, { on := 1, ground := Ground.phase }, { on := 2, ground := Ground.phase }, { on := 3, ground := Ground.phase }, { on := 4, ground := Ground.phase }, { on := 5, ground := Ground.phase }, { on := 6, ground := Ground.phase }, { on := 7, ground := Ground.phase }, { on := 8, ground := Ground.phase }, { on := 9, ground := Ground.phase }, { on := 10, ground := Ground.phase }, { on := 11, ground := Ground.phase }, { on := 12, ground := Ground.phase }], guard := none }) rfl (fun K hK => ?_) AllReadyH.nil
      go_simp; refine hK.out _ _ trivial (fun hHeld => ?_)
      clear hK K
      try simp only [Act.put, List.setIfInBounds_toArray, List.set_cons_zero, List.set_cons_succ]
      refine wpAnyH_done (by kernel_rfl) ?_ _
      go_wp2_with fail
      obtain ⟨X5, h5⟩ := HF5.out
      exact ⟨⟨j + 1, by omega, by go_num, X5, _, _, h5⟩, by simp [intOf]; omega⟩
     refine AllReadyH.cons (o := { dst := some 68, op := Op.load 48 (Operand.tmp 67), type := 48, pos := "ref.go:179", after := #[{ on := 7, ground := Ground.data }], guard := none }) rfl (fun K hK => ?_) ?_
     ·go_simp; refine hK.out _ _ trivial (fun hHeld => ?_)
      clear hK K
      try simp only [Act.put, List.setIfInBounds_toArray, List.set_cons_zero, List.set_cons_succ]
      refine wpAnyH_ready (rs := [1, 11]) (by kernel_rfl) (by simp) ?_
      refine AllReadyH.cons (o := { dst := some 61, op := Op.load 28 (Operand.tmp 60), type := 28, pos := "ref.go:179", after := #[{ on := 0, ground := Ground.data }], guard := none }) rfl (fun K hK => ?_) ?_
      ·go_simp; refine hK.out _ _ trivial (fun hHeld => ?_)
       clear hK K
       try simp only [Act.put, List.setIfInBounds_toArray, List.set_cons_zero, List.set_cons_succ]
       refine wpAnyH_ready (rs := [11]) (by kernel_rfl) (by simp) ?_
       refine AllReadyH.cons (o := { dst := some 71, op := Op.call { callee := Callee.value (Operand.func 51), args := #[Operand.tmp 70], argTypes := #[48] }, type := 48, pos := "ref.go:179", after := #[{ on := 10, ground := Ground.data }], guard := none }) rfl (fun K hK => ?_) AllReadyH.nil
       go_simp; go_at_call 51; (with_reducible refine HCP.out.mono ?_); rintro e w2 ⟨⟨v, xs, rfl, hxo, hxp, hxk⟩, hb2⟩; rw [← HNQ.out] at hxo; obtain ⟨cp2, cc2, rfl, hxr, hxn⟩ := own_sh hxo; have ob2 := (hb2.cell (p := ⟨w0.heap.size, 0, none⟩) hg4l).trans ob0; have hg2 := (hb2.cell (p := ⟨g4, i * 4 + 3, none⟩) hgl).trans hg3; have HB2 := hid hb2; have HXP := hid hxp; have HXK := hid hxk; have HXR := hid hxr; clear hxo hb2 hxp hxk hxr; refine hK.out _ _ trivial (fun hHeld => ?_)
       clear hK K
       try simp only [Act.put, List.setIfInBounds_toArray, List.set_cons_zero, List.set_cons_succ]
       refine wpAnyH_ready (rs := [12]) (by kernel_rfl) (by simp) ?_
       refine AllReadyH.cons (o := { dst := some 72, op := Op.call { callee := Callee.builtin Builtin.append, args := #[Operand.tmp 68, Operand.tmp 71], argTypes := #[48, 48] }, type := 48, pos := "ref.go:179", after := #[{ on := 8, ground := Ground.data }, { on := 11, ground := Ground.data }, { on := 11, ground := Ground.chain }], guard := none }) rfl (fun K hK => ?_) AllReadyH.nil
       (refine step_appO EPiece rfl (.tmp 68) (.tmp 71) rfl W.heap.size (.slice zp zl.length zc) zl.length (zl.flatMap PcR.cells) rfl (own_below HZO.out HB2.out) cp2 NQ cc2 (xs.flatMap PcR.cells) rfl (HXO.out _ HXP.out) hxn HXR.out (fun v hv => by obtain ⟨t, -, h⟩ := List.mem_flatMap.1 hv; exact pcr_ones t v h) (by unfold maxLen; omega) (by omega) (Nat.le_trans hbwd HB2.out.size) ?_); intro v5 w5 ho5 hg5 hs5; obtain ⟨p5, c5, rfl, -⟩ := own_shape ho5; obtain ⟨t3, t4, t5⟩ := HG4.out _ _ HB2.out hg5; have HF5 := hid (HFIN.out _ _ _ _ _ HB2.out HXP.out HXK.out ho5 hg5 hs5); clear ho5 hg5 hs5; refine hK.out _ _ trivial (fun hHeld => ?_)
       clear hK K
       try simp only [Act.put, List.setIfInBounds_toArray, List.set_cons_zero, List.set_cons_succ]
       refine wpAnyH_take (i := 13) (oi := { dst := some 73, op := Op.indexAddr 28 (Operand.tmp 61) (Operand.tmp 62), type := 0, pos := "ref.go:179", after := #[{ on := 1, ground := Ground.data }, { on := 2, ground := Ground.data }, { on := 0, ground := Ground.phase }, { on := 1, ground := Ground.phase }, { on := 2, ground := Ground.phase }, { on := 3, ground := Ground.phase }, { on := 4, ground := Ground.phase }, { on := 5, ground := Ground.phase }, { on := 6, ground := Ground.phase }, { on := 7, ground := Ground.phase }, { on := 8, ground := Ground.phase }, { on := 9, ground := Ground.phase }, { on := 10, ground := Ground.phase }, { on := 11, ground := Ground.phase }, { on := 12, ground := Ground.phase }], guard := none }) (v := ?pecbbav13) rfl (by kernel_rfl) (by kernel_rfl) (by kernel_rfl) (fun _ _ _ h => h) (Or.inl ⟨by rfl, ?pecbbah13⟩) (by assumption) ?pecbbar13
       case pecbbah13 => ((intro w hSw; (try dsimp only at hSw); go_simp); try with_reducible rfl)
       try simp only [Act.put, List.setIfInBounds_toArray, List.set_cons_zero, List.set_cons_succ]
       refine wpAnyH_take (i := 14) (oi := { dst := some 74, op := Op.fieldAddr 50 (Operand.tmp 73) 3, type := 0, pos := "ref.go:179", after := #[{ on := 13, ground := Ground.data }, { on := 0, ground := Ground.phase }, { on := 1, ground := Ground.phase }, { on := 2, ground := Ground.phase }, { on := 3, ground := Ground.phase }, { on := 4, ground := Ground.phase }, { on := 5, ground := Ground.phase }, { on := 6, ground := Ground.phase }, { on := 7, ground := Ground.phase }, { on := 8, ground := Ground.phase }, { on := 9, ground := Ground.phase }, { on := 10, ground := Ground.phase }, { on := 11, ground := Ground.phase }, { on := 12, ground := Ground.phase }], guard := none }) (v := ?pecbbav14) rfl (by kernel_rfl) (by kernel_rfl) (by kernel_rfl) (fun _ _ _ h => h) (Or.inl ⟨by rfl, ?pecbbah14⟩) (by assumption) ?pecbbar14
       case pecbbah14 => ((intro w hSw; (try dsimp only at hSw); go_simp); try with_reducible rfl)
       try simp only [Act.put, List.setIfInBounds_toArray, List.set_cons_zero, List.set_cons_succ]
       refine wpAnyH_ready (rs := [15]) (by kernel_rfl) (by simp) ?_
       refine AllReadyH.cons (o := { dst := none, op := Op.store 48 (Operand.tmp 74) (Operand.tmp 72), type := 0, pos := "ref.go:179", after := #[{ on := 14, ground := Ground.data }, { on := 12, ground := Ground.data }, { on := 12, ground := Ground.chain }, { on := 0, ground := Ground.phase }, { on := 1, ground := Ground.phase }, { on := 2, ground := Ground.phase }, { on := 3, ground := Ground.phase }, { on := 4, ground := Ground.phase }, { on := 5, ground := Ground.phase }, { on := 6, ground := Ground.phase }, { on := 7, ground := Ground.phase }, { on := 8, ground := Ground.phase }, { on := 9, ground := Ground.phase }, { on := 10, ground := Ground.phase }, { on := 11, ground := Ground.phase }, { on := 12, ground := Ground.phase }], guard := none }) rfl (fun K hK => ?_) AllReadyH.nil
       go_simp; refine hK.out _ _ trivial (fun hHeld => ?_)
       clear hK K
       try simp only [Act.put, List.setIfInBounds_toArray, List.set_cons_zero, List.set_cons_succ]
       refine wpAnyH_done (by kernel_rfl) ?_ _
       go_wp2_with fail
       obtain ⟨X5, h5⟩ := HF5.out
       exact ⟨⟨j + 1, by omega, by go_num, X5, _, _, h5⟩, by simp [intOf]; omega⟩
      refine AllReadyH.cons (o := { dst := some 71, op := Op.call { callee := Callee.value (Operand.func 51), args := #[Operand.tmp 70], argTypes := #[48] }, type := 48, pos := "ref.go:179", after := #[{ on := 10, ground := Ground.data }], guard := none }) rfl (fun K hK => ?_) AllReadyH.nil
      go_simp; go_at_call 51; (with_reducible refine HCP.out.mono ?_); rintro e w2 ⟨⟨v, xs, rfl, hxo, hxp, hxk⟩, hb2⟩; rw [← HNQ.out] at hxo; obtain ⟨cp2, cc2, rfl, hxr, hxn⟩ := own_sh hxo; have ob2 := (hb2.cell (p := ⟨w0.heap.size, 0, none⟩) hg4l).trans ob0; have hg2 := (hb2.cell (p := ⟨g4, i * 4 + 3, none⟩) hgl).trans hg3; have HB2 := hid hb2; have HXP := hid hxp; have HXK := hid hxk; have HXR := hid hxr; clear hxo hb2 hxp hxk hxr; refine hK.out _ _ trivial (fun hHeld => ?_)
      clear hK K
      try simp only [Act.put, List.setIfInBounds_toArray, List.set_cons_zero, List.set_cons_succ]
      refine wpAnyH_ready (rs := [1, 12]) (by kernel_rfl) (by simp) ?_
      refine AllReadyH.cons (o := { dst := some 61, op := Op.load 28 (Operand.tmp 60), type := 28, pos := "ref.go:179", after := #[{ on := 0, ground := Ground.data }], guard := none }) rfl (fun K hK => ?_) ?_
      ·go_simp; refine hK.out _ _ trivial (fun hHeld => ?_)
       clear hK K
       try simp only [Act.put, List.setIfInBounds_toArray, List.set_cons_zero, List.set_cons_succ]
       refine wpAnyH_ready (rs := [12]) (by kernel_rfl) (by simp) ?_
       refine AllReadyH.cons (o := { dst := some 72, op := Op.call { callee := Callee.builtin Builtin.append, args := #[Operand.tmp 68, Operand.tmp 71], argTypes := #[48, 48] }, type := 48, pos := "ref.go:179", after := #[{ on := 8, ground := Ground.data }, { on := 11, ground := Ground.data }, { on := 11, ground := Ground.chain }], guard := none }) rfl (fun K hK => ?_) AllReadyH.nil
       (refine step_appO EPiece rfl (.tmp 68) (.tmp 71) rfl W.heap.size (.slice zp zl.length zc) zl.length (zl.flatMap PcR.cells) rfl (own_below HZO.out HB2.out) cp2 NQ cc2 (xs.flatMap PcR.cells) rfl (HXO.out _ HXP.out) hxn HXR.out (fun v hv => by obtain ⟨t, -, h⟩ := List.mem_flatMap.1 hv; exact pcr_ones t v h) (by unfold maxLen; omega) (by omega) (Nat.le_trans hbwd HB2.out.size) ?_); intro v5 w5 ho5 hg5 hs5; obtain ⟨p5, c5, rfl, -⟩ := own_shape ho5; obtain ⟨t3, t4, t5⟩ := HG4.out _ _ HB2.out hg5; have HF5 := hid (HFIN.out _ _ _ _ _ HB2.out HXP.out HXK.out ho5 hg5 hs5); clear ho5 hg5 hs5; refine hK.out _ _ trivial (fun hHeld => ?_)
       clear hK K
       try simp only [Act.put, List.setIfInBounds_toArray, List.set_cons_zero, List.set_cons_succ]
       refine wpAnyH_take (i := 13) (oi := { dst := some 73, op := Op.indexAddr 28 (Operand.tmp 61) (Operand.tmp 62), type := 0, pos := "ref.go:179", after := #[{ on := 1, ground := Ground.data }, { on := 2, ground := Ground.data }, { on := 0, ground := Ground.phase }, { on := 1, ground := Ground.phase }, { on := 2, ground := Ground.phase }, { on := 3, ground := Ground.phase }, { on := 4, ground := Ground.phase }, { on := 5, ground := Ground.phase }, { on := 6, ground := Ground.phase }, { on := 7, ground := Ground.phase }, { on := 8, ground := Ground.phase }, { on := 9, ground := Ground.phase }, { on := 10, ground := Ground.phase }, { on := 11, ground := Ground.phase }, { on := 12, ground := Ground.phase }], guard := none }) (v := ?pecbbbav13) rfl (by kernel_rfl) (by kernel_rfl) (by kernel_rfl) (fun _ _ _ h => h) (Or.inl ⟨by rfl, ?pecbbbah13⟩) (by assumption) ?pecbbbar13
       case pecbbbah13 => ((intro w hSw; (try dsimp only at hSw); go_simp); try with_reducible rfl)
       try simp only [Act.put, List.setIfInBounds_toArray, List.set_cons_zero, List.set_cons_succ]
       refine wpAnyH_take (i := 14) (oi := { dst := some 74, op := Op.fieldAddr 50 (Operand.tmp 73) 3, type := 0, pos := "ref.go:179", after := #[{ on := 13, ground := Ground.data }, { on := 0, ground := Ground.phase }, { on := 1, ground := Ground.phase }, { on := 2, ground := Ground.phase }, { on := 3, ground := Ground.phase }, { on := 4, ground := Ground.phase }, { on := 5, ground := Ground.phase }, { on := 6, ground := Ground.phase }, { on := 7, ground := Ground.phase }, { on := 8, ground := Ground.phase }, { on := 9, ground := Ground.phase }, { on := 10, ground := Ground.phase }, { on := 11, ground := Ground.phase }, { on := 12, ground := Ground.phase }], guard := none }) (v := ?pecbbbav14) rfl (by kernel_rfl) (by kernel_rfl) (by kernel_rfl) (fun _ _ _ h => h) (Or.inl ⟨by rfl, ?pecbbbah14⟩) (by assumption) ?pecbbbar14
       case pecbbbah14 => ((intro w hSw; (try dsimp only at hSw); go_simp); try with_reducible rfl)
       try simp only [Act.put, List.setIfInBounds_toArray, List.set_cons_zero, List.set_cons_succ]
       refine wpAnyH_ready (rs := [15]) (by kernel_rfl) (by simp) ?_
       refine AllReadyH.cons (o := { dst := none, op := Op.store 48 (Operand.tmp 74) (Operand.tmp 72), type := 0, pos := "ref.go:179", after := #[{ on := 14, ground := Ground.data }, { on := 12, ground := Ground.data }, { on := 12, ground := Ground.chain }, { on := 0, ground := Ground.phase }, { on := 1, ground := Ground.phase }, { on := 2, ground := Ground.phase }, { on := 3, ground := Ground.phase }, { on := 4, ground := Ground.phase }, { on := 5, ground := Ground.phase }, { on := 6, ground := Ground.phase }, { on := 7, ground := Ground.phase }, { on := 8, ground := Ground.phase }, { on := 9, ground := Ground.phase }, { on := 10, ground := Ground.phase }, { on := 11, ground := Ground.phase }, { on := 12, ground := Ground.phase }], guard := none }) rfl (fun K hK => ?_) AllReadyH.nil
       go_simp; refine hK.out _ _ trivial (fun hHeld => ?_)
       clear hK K
       try simp only [Act.put, List.setIfInBounds_toArray, List.set_cons_zero, List.set_cons_succ]
       refine wpAnyH_done (by kernel_rfl) ?_ _
       go_wp2_with fail
       obtain ⟨X5, h5⟩ := HF5.out
       exact ⟨⟨j + 1, by omega, by go_num, X5, _, _, h5⟩, by simp [intOf]; omega⟩
      refine AllReadyH.cons (o := { dst := some 72, op := Op.call { callee := Callee.builtin Builtin.append, args := #[Operand.tmp 68, Operand.tmp 71], argTypes := #[48, 48] }, type := 48, pos := "ref.go:179", after := #[{ on := 8, ground := Ground.data }, { on := 11, ground := Ground.data }, { on := 11, ground := Ground.chain }], guard := none }) rfl (fun K hK => ?_) AllReadyH.nil
      (refine step_appO EPiece rfl (.tmp 68) (.tmp 71) rfl W.heap.size (.slice zp zl.length zc) zl.length (zl.flatMap PcR.cells) rfl (own_below HZO.out HB2.out) cp2 NQ cc2 (xs.flatMap PcR.cells) rfl (HXO.out _ HXP.out) hxn HXR.out (fun v hv => by obtain ⟨t, -, h⟩ := List.mem_flatMap.1 hv; exact pcr_ones t v h) (by unfold maxLen; omega) (by omega) (Nat.le_trans hbwd HB2.out.size) ?_); intro v5 w5 ho5 hg5 hs5; obtain ⟨p5, c5, rfl, -⟩ := own_shape ho5; obtain ⟨t3, t4, t5⟩ := HG4.out _ _ HB2.out hg5; have HF5 := hid (HFIN.out _ _ _ _ _ HB2.out HXP.out HXK.out ho5 hg5 hs5); clear ho5 hg5 hs5; refine hK.out _ _ trivial (fun hHeld => ?_)
      clear hK K
      try simp only [Act.put, List.setIfInBounds_toArray, List.set_cons_zero, List.set_cons_succ]
      refine wpAnyH_ready (rs := [1]) (by kernel_rfl) (by simp) ?_
      refine AllReadyH.cons (o := { dst := some 61, op := Op.load 28 (Operand.tmp 60), type := 28, pos := "ref.go:179", after := #[{ on := 0, ground := Ground.data }], guard := none }) rfl (fun K hK => ?_) AllReadyH.nil
      go_simp; refine hK.out _ _ trivial (fun hHeld => ?_)
      clear hK K
      try simp only [Act.put, List.setIfInBounds_toArray, List.set_cons_zero, List.set_cons_succ]
      refine wpAnyH_take (i := 13) (oi := { dst := some 73, op := Op.indexAddr 28 (Operand.tmp 61) (Operand.tmp 62), type := 0, pos := "ref.go:179", after := #[{ on := 1, ground := Ground.data }, { on := 2, ground := Ground.data }, { on := 0, ground := Ground.phase }, { on := 1, ground := Ground.phase }, { on := 2, ground := Ground.phase }, { on := 3, ground := Ground.phase }, { on := 4, ground := Ground.phase }, { on := 5, ground := Ground.phase }, { on := 6, ground := Ground.phase }, { on := 7, ground := Ground.phase }, { on := 8, ground := Ground.phase }, { on := 9, ground := Ground.phase }, { on := 10, ground := Ground.phase }, { on := 11, ground := Ground.phase }, { on := 12, ground := Ground.phase }], guard := none }) (v := ?pecbbbbv13) rfl (by kernel_rfl) (by kernel_rfl) (by kernel_rfl) (fun _ _ _ h => h) (Or.inl ⟨by rfl, ?pecbbbbh13⟩) (by assumption) ?pecbbbbr13
      case pecbbbbh13 => ((intro w hSw; (try dsimp only at hSw); go_simp); try with_reducible rfl)
      try simp only [Act.put, List.setIfInBounds_toArray, List.set_cons_zero, List.set_cons_succ]
      refine wpAnyH_take (i := 14) (oi := { dst := some 74, op := Op.fieldAddr 50 (Operand.tmp 73) 3, type := 0, pos := "ref.go:179", after := #[{ on := 13, ground := Ground.data }, { on := 0, ground := Ground.phase }, { on := 1, ground := Ground.phase }, { on := 2, ground := Ground.phase }, { on := 3, ground := Ground.phase }, { on := 4, ground := Ground.phase }, { on := 5, ground := Ground.phase }, { on := 6, ground := Ground.phase }, { on := 7, ground := Ground.phase }, { on := 8, ground := Ground.phase }, { on := 9, ground := Ground.phase }, { on := 10, ground := Ground.phase }, { on := 11, ground := Ground.phase }, { on := 12, ground := Ground.phase }], guard := none }) (v := ?pecbbbbv14) rfl (by kernel_rfl) (by kernel_rfl) (by kernel_rfl) (fun _ _ _ h => h) (Or.inl ⟨by rfl, ?pecbbbbh14⟩) (by assumption) ?pecbbbbr14
      case pecbbbbh14 => ((intro w hSw; (try dsimp only at hSw); go_simp); try with_reducible rfl)
      try simp only [Act.put, List.setIfInBounds_toArray, List.set_cons_zero, List.set_cons_succ]
      refine wpAnyH_ready (rs := [15]) (by kernel_rfl) (by simp) ?_
      refine AllReadyH.cons (o := { dst := none, op := Op.store 48 (Operand.tmp 74) (Operand.tmp 72), type := 0, pos := "ref.go:179", after := #[{ on := 14, ground := Ground.data }, { on := 12, ground := Ground.data }, { on := 12, ground := Ground.chain }, { on := 0, ground := Ground.phase }, { on := 1, ground := Ground.phase }, { on := 2, ground := Ground.phase }, { on := 3, ground := Ground.phase }, { on := 4, ground := Ground.phase }, { on := 5, ground := Ground.phase }, { on := 6, ground := Ground.phase }, { on := 7, ground := Ground.phase }, { on := 8, ground := Ground.phase }, { on := 9, ground := Ground.phase }, { on := 10, ground := Ground.phase }, { on := 11, ground := Ground.phase }, { on := 12, ground := Ground.phase }], guard := none }) rfl (fun K hK => ?_) AllReadyH.nil
      go_simp; refine hK.out _ _ trivial (fun hHeld => ?_)
      clear hK K
      try simp only [Act.put, List.setIfInBounds_toArray, List.set_cons_zero, List.set_cons_succ]
      refine wpAnyH_done (by kernel_rfl) ?_ _
      go_wp2_with fail
      obtain ⟨X5, h5⟩ := HF5.out
      exact ⟨⟨j + 1, by omega, by go_num, X5, _, _, h5⟩, by simp [intOf]; omega⟩
     refine AllReadyH.cons (o := { dst := some 71, op := Op.call { callee := Callee.value (Operand.func 51), args := #[Operand.tmp 70], argTypes := #[48] }, type := 48, pos := "ref.go:179", after := #[{ on := 10, ground := Ground.data }], guard := none }) rfl (fun K hK => ?_) AllReadyH.nil
     go_simp; go_at_call 51; (with_reducible refine HCP.out.mono ?_); rintro e w2 ⟨⟨v, xs, rfl, hxo, hxp, hxk⟩, hb2⟩; rw [← HNQ.out] at hxo; obtain ⟨cp2, cc2, rfl, hxr, hxn⟩ := own_sh hxo; have ob2 := (hb2.cell (p := ⟨w0.heap.size, 0, none⟩) hg4l).trans ob0; have hg2 := (hb2.cell (p := ⟨g4, i * 4 + 3, none⟩) hgl).trans hg3; have HB2 := hid hb2; have HXP := hid hxp; have HXK := hid hxk; have HXR := hid hxr; clear hxo hb2 hxp hxk hxr; refine hK.out _ _ trivial (fun hHeld => ?_)
     clear hK K
     try simp only [Act.put, List.setIfInBounds_toArray, List.set_cons_zero, List.set_cons_succ]
     refine wpAnyH_ready (rs := [1, 8]) (by kernel_rfl) (by simp) ?_
     refine AllReadyH.cons (o := { dst := some 61, op := Op.load 28 (Operand.tmp 60), type := 28, pos := "ref.go:179", after := #[{ on := 0, ground := Ground.data }], guard := none }) rfl (fun K hK => ?_) ?_
     ·go_simp; refine hK.out _ _ trivial (fun hHeld => ?_)
      clear hK K
      try simp only [Act.put, List.setIfInBounds_toArray, List.set_cons_zero, List.set_cons_succ]
      refine wpAnyH_ready (rs := [8]) (by kernel_rfl) (by simp) ?_
      refine AllReadyH.cons (o := { dst := some 68, op := Op.load 48 (Operand.tmp 67), type := 48, pos := "ref.go:179", after := #[{ on := 7, ground := Ground.data }], guard := none }) rfl (fun K hK => ?_) AllReadyH.nil
      go_simp; refine hK.out _ _ trivial (fun hHeld => ?_)
      clear hK K
      try simp only [Act.put, List.setIfInBounds_toArray, List.set_cons_zero, List.set_cons_succ]
      refine wpAnyH_ready (rs := [12]) (by kernel_rfl) (by simp) ?_
      refine AllReadyH.cons (o := { dst := some 72, op := Op.call { callee := Callee.builtin Builtin.append, args := #[Operand.tmp 68, Operand.tmp 71], argTypes := #[48, 48] }, type := 48, pos := "ref.go:179", after := #[{ on := 8, ground := Ground.data }, { on := 11, ground := Ground.data }, { on := 11, ground := Ground.chain }], guard := none }) rfl (fun K hK => ?_) AllReadyH.nil
      (refine step_appO EPiece rfl (.tmp 68) (.tmp 71) rfl W.heap.size (.slice zp zl.length zc) zl.length (zl.flatMap PcR.cells) rfl (own_below HZO.out HB2.out) cp2 NQ cc2 (xs.flatMap PcR.cells) rfl (HXO.out _ HXP.out) hxn HXR.out (fun v hv => by obtain ⟨t, -, h⟩ := List.mem_flatMap.1 hv; exact pcr_ones t v h) (by unfold maxLen; omega) (by omega) (Nat.le_trans hbwd HB2.out.size) ?_); intro v5 w5 ho5 hg5 hs5; obtain ⟨p5, c5, rfl, -⟩ := own_shape ho5; obtain ⟨t3, t4, t5⟩ := HG4.out _ _ HB2.out hg5; have HF5 := hid (HFIN.out _ _ _ _ _ HB2.out HXP.out HXK.out ho5 hg5 hs5); clear ho5 hg5 hs5; refine hK.out _ _ trivial (fun hHeld => ?_)
      clear hK K
      try simp only [Act.put, List.setIfInBounds_toArray, List.set_cons_zero, List.set_cons_succ]
      refine wpAnyH_take (i := 13) (oi := { dst := some 73, op := Op.indexAddr 28 (Operand.tmp 61) (Operand.tmp 62), type := 0, pos := "ref.go:179", after := #[{ on := 1, ground := Ground.data }, { on := 2, ground := Ground.data }, { on := 0, ground := Ground.phase }, { on := 1, ground := Ground.phase }, { on := 2, ground := Ground.phase }, { on := 3, ground := Ground.phase }, { on := 4, ground := Ground.phase }, { on := 5, ground := Ground.phase }, { on := 6, ground := Ground.phase }, { on := 7, ground := Ground.phase }, { on := 8, ground := Ground.phase }, { on := 9, ground := Ground.phase }, { on := 10, ground := Ground.phase }, { on := 11, ground := Ground.phase }, { on := 12, ground := Ground.phase }], guard := none }) (v := ?pecbcav13) rfl (by kernel_rfl) (by kernel_rfl) (by kernel_rfl) (fun _ _ _ h => h) (Or.inl ⟨by rfl, ?pecbcah13⟩) (by assumption) ?pecbcar13
      case pecbcah13 => ((intro w hSw; (try dsimp only at hSw); go_simp); try with_reducible rfl)
      try simp only [Act.put, List.setIfInBounds_toArray, List.set_cons_zero, List.set_cons_succ]
      refine wpAnyH_take (i := 14) (oi := { dst := some 74, op := Op.fieldAddr 50 (Operand.tmp 73) 3, type := 0, pos := "ref.go:179", after := #[{ on := 13, ground := Ground.data }, { on := 0, ground := Ground.phase }, { on := 1, ground := Ground.phase }, { on := 2, ground := Ground.phase }, { on := 3, ground := Ground.phase }, { on := 4, ground := Ground.phase }, { on := 5, ground := Ground.phase }, { on := 6, ground := Ground.phase }, { on := 7, ground := Ground.phase }, { on := 8, ground := Ground.phase }, { on := 9, ground := Ground.phase }, { on := 10, ground := Ground.phase }, { on := 11, ground := Ground.phase }, { on := 12, ground := Ground.phase }], guard := none }) (v := ?pecbcav14) rfl (by kernel_rfl) (by kernel_rfl) (by kernel_rfl) (fun _ _ _ h => h) (Or.inl ⟨by rfl, ?pecbcah14⟩) (by assumption) ?pecbcar14
      case pecbcah14 => ((intro w hSw; (try dsimp only at hSw); go_simp); try with_reducible rfl)
      try simp only [Act.put, List.setIfInBounds_toArray, List.set_cons_zero, List.set_cons_succ]
      refine wpAnyH_ready (rs := [15]) (by kernel_rfl) (by simp) ?_
      refine AllReadyH.cons (o := { dst := none, op := Op.store 48 (Operand.tmp 74) (Operand.tmp 72), type := 0, pos := "ref.go:179", after := #[{ on := 14, ground := Ground.data }, { on := 12, ground := Ground.data }, { on := 12, ground := Ground.chain }, { on := 0, ground := Ground.phase }, { on := 1, ground := Ground.phase }, { on := 2, ground := Ground.phase }, { on := 3, ground := Ground.phase }, { on := 4, ground := Ground.phase }, { on := 5, ground := Ground.phase }, { on := 6, ground := Ground.phase }, { on := 7, ground := Ground.phase }, { on := 8, ground := Ground.phase }, { on := 9, ground := Ground.phase }, { on := 10, ground := Ground.phase }, { on := 11, ground := Ground.phase }, { on := 12, ground := Ground.phase }], guard := none }) rfl (fun K hK => ?_) AllReadyH.nil
      go_simp; refine hK.out _ _ trivial (fun hHeld => ?_)
      clear hK K
      try simp only [Act.put, List.setIfInBounds_toArray, List.set_cons_zero, List.set_cons_succ]
      refine wpAnyH_done (by kernel_rfl) ?_ _
      go_wp2_with fail
      obtain ⟨X5, h5⟩ := HF5.out
      exact ⟨⟨j + 1, by omega, by go_num, X5, _, _, h5⟩, by simp [intOf]; omega⟩
     refine AllReadyH.cons (o := { dst := some 68, op := Op.load 48 (Operand.tmp 67), type := 48, pos := "ref.go:179", after := #[{ on := 7, ground := Ground.data }], guard := none }) rfl (fun K hK => ?_) AllReadyH.nil
     go_simp; refine hK.out _ _ trivial (fun hHeld => ?_)
     clear hK K
     try simp only [Act.put, List.setIfInBounds_toArray, List.set_cons_zero, List.set_cons_succ]
     refine wpAnyH_ready (rs := [1, 12]) (by kernel_rfl) (by simp) ?_
     refine AllReadyH.cons (o := { dst := some 61, op := Op.load 28 (Operand.tmp 60), type := 28, pos := "ref.go:179", after := #[{ on := 0, ground := Ground.data }], guard := none }) rfl (fun K hK => ?_) ?_
     ·go_simp; refine hK.out _ _ trivial (fun hHeld => ?_)
      clear hK K
      try simp only [Act.put, List.setIfInBounds_toArray, List.set_cons_zero, List.set_cons_succ]
      refine wpAnyH_ready (rs := [12]) (by kernel_rfl) (by simp) ?_
      refine AllReadyH.cons (o := { dst := some 72, op := Op.call { callee := Callee.builtin Builtin.append, args := #[Operand.tmp 68, Operand.tmp 71], argTypes := #[48, 48] }, type := 48, pos := "ref.go:179", after := #[{ on := 8, ground := Ground.data }, { on := 11, ground := Ground.data }, { on := 11, ground := Ground.chain }], guard := none }) rfl (fun K hK => ?_) AllReadyH.nil
      (refine step_appO EPiece rfl (.tmp 68) (.tmp 71) rfl W.heap.size (.slice zp zl.length zc) zl.length (zl.flatMap PcR.cells) rfl (own_below HZO.out HB2.out) cp2 NQ cc2 (xs.flatMap PcR.cells) rfl (HXO.out _ HXP.out) hxn HXR.out (fun v hv => by obtain ⟨t, -, h⟩ := List.mem_flatMap.1 hv; exact pcr_ones t v h) (by unfold maxLen; omega) (by omega) (Nat.le_trans hbwd HB2.out.size) ?_); intro v5 w5 ho5 hg5 hs5; obtain ⟨p5, c5, rfl, -⟩ := own_shape ho5; obtain ⟨t3, t4, t5⟩ := HG4.out _ _ HB2.out hg5; have HF5 := hid (HFIN.out _ _ _ _ _ HB2.out HXP.out HXK.out ho5 hg5 hs5); clear ho5 hg5 hs5; refine hK.out _ _ trivial (fun hHeld => ?_)
      clear hK K
      try simp only [Act.put, List.setIfInBounds_toArray, List.set_cons_zero, List.set_cons_succ]
      refine wpAnyH_take (i := 13) (oi := { dst := some 73, op := Op.indexAddr 28 (Operand.tmp 61) (Operand.tmp 62), type := 0, pos := "ref.go:179", after := #[{ on := 1, ground := Ground.data }, { on := 2, ground := Ground.data }, { on := 0, ground := Ground.phase }, { on := 1, ground := Ground.phase }, { on := 2, ground := Ground.phase }, { on := 3, ground := Ground.phase }, { on := 4, ground := Ground.phase }, { on := 5, ground := Ground.phase }, { on := 6, ground := Ground.phase }, { on := 7, ground := Ground.phase }, { on := 8, ground := Ground.phase }, { on := 9, ground := Ground.phase }, { on := 10, ground := Ground.phase }, { on := 11, ground := Ground.phase }, { on := 12, ground := Ground.phase }], guard := none }) (v := ?pecbcbav13) rfl (by kernel_rfl) (by kernel_rfl) (by kernel_rfl) (fun _ _ _ h => h) (Or.inl ⟨by rfl, ?pecbcbah13⟩) (by assumption) ?pecbcbar13
      case pecbcbah13 => ((intro w hSw; (try dsimp only at hSw); go_simp); try with_reducible rfl)
      try simp only [Act.put, List.setIfInBounds_toArray, List.set_cons_zero, List.set_cons_succ]
      refine wpAnyH_take (i := 14) (oi := { dst := some 74, op := Op.fieldAddr 50 (Operand.tmp 73) 3, type := 0, pos := "ref.go:179", after := #[{ on := 13, ground := Ground.data }, { on := 0, ground := Ground.phase }, { on := 1, ground := Ground.phase }, { on := 2, ground := Ground.phase }, { on := 3, ground := Ground.phase }, { on := 4, ground := Ground.phase }, { on := 5, ground := Ground.phase }, { on := 6, ground := Ground.phase }, { on := 7, ground := Ground.phase }, { on := 8, ground := Ground.phase }, { on := 9, ground := Ground.phase }, { on := 10, ground := Ground.phase }, { on := 11, ground := Ground.phase }, { on := 12, ground := Ground.phase }], guard := none }) (v := ?pecbcbav14) rfl (by kernel_rfl) (by kernel_rfl) (by kernel_rfl) (fun _ _ _ h => h) (Or.inl ⟨by rfl, ?pecbcbah14⟩) (by assumption) ?pecbcbar14
      case pecbcbah14 => ((intro w hSw; (try dsimp only at hSw); go_simp); try with_reducible rfl)
      try simp only [Act.put, List.setIfInBounds_toArray, List.set_cons_zero, List.set_cons_succ]
      refine wpAnyH_ready (rs := [15]) (by kernel_rfl) (by simp) ?_
      refine AllReadyH.cons (o := { dst := none, op := Op.store 48 (Operand.tmp 74) (Operand.tmp 72), type := 0, pos := "ref.go:179", after := #[{ on := 14, ground := Ground.data }, { on := 12, ground := Ground.data }, { on := 12, ground := Ground.chain }, { on := 0, ground := Ground.phase }, { on := 1, ground := Ground.phase }, { on := 2, ground := Ground.phase }, { on := 3, ground := Ground.phase }, { on := 4, ground := Ground.phase }, { on := 5, ground := Ground.phase }, { on := 6, ground := Ground.phase }, { on := 7, ground := Ground.phase }, { on := 8, ground := Ground.phase }, { on := 9, ground := Ground.phase }, { on := 10, ground := Ground.phase }, { on := 11, ground := Ground.phase }, { on := 12, ground := Ground.phase }], guard := none }) rfl (fun K hK => ?_) AllReadyH.nil
      go_simp; refine hK.out _ _ trivial (fun hHeld => ?_)
      clear hK K
      try simp only [Act.put, List.setIfInBounds_toArray, List.set_cons_zero, List.set_cons_succ]
      refine wpAnyH_done (by kernel_rfl) ?_ _
      go_wp2_with fail
      obtain ⟨X5, h5⟩ := HF5.out
      exact ⟨⟨j + 1, by omega, by go_num, X5, _, _, h5⟩, by simp [intOf]; omega⟩
     refine AllReadyH.cons (o := { dst := some 72, op := Op.call { callee := Callee.builtin Builtin.append, args := #[Operand.tmp 68, Operand.tmp 71], argTypes := #[48, 48] }, type := 48, pos := "ref.go:179", after := #[{ on := 8, ground := Ground.data }, { on := 11, ground := Ground.data }, { on := 11, ground := Ground.chain }], guard := none }) rfl (fun K hK => ?_) AllReadyH.nil
     (refine step_appO EPiece rfl (.tmp 68) (.tmp 71) rfl W.heap.size (.slice zp zl.length zc) zl.length (zl.flatMap PcR.cells) rfl (own_below HZO.out HB2.out) cp2 NQ cc2 (xs.flatMap PcR.cells) rfl (HXO.out _ HXP.out) hxn HXR.out (fun v hv => by obtain ⟨t, -, h⟩ := List.mem_flatMap.1 hv; exact pcr_ones t v h) (by unfold maxLen; omega) (by omega) (Nat.le_trans hbwd HB2.out.size) ?_); intro v5 w5 ho5 hg5 hs5; obtain ⟨p5, c5, rfl, -⟩ := own_shape ho5; obtain ⟨t3, t4, t5⟩ := HG4.out _ _ HB2.out hg5; have HF5 := hid (HFIN.out _ _ _ _ _ HB2.out HXP.out HXK.out ho5 hg5 hs5); clear ho5 hg5 hs5; refine hK.out _ _ trivial (fun hHeld => ?_)
     clear hK K
     try simp only [Act.put, List.setIfInBounds_toArray, List.set_cons_zero, List.set_cons_succ]
     refine wpAnyH_ready (rs := [1]) (by kernel_rfl) (by simp) ?_
     refine AllReadyH.cons (o := { dst := some 61, op := Op.load 28 (Operand.tmp 60), type := 28, pos := "ref.go:179", after := #[{ on := 0, ground := Ground.data }], guard := none }) rfl (fun K hK => ?_) AllReadyH.nil
     go_simp; refine hK.out _ _ trivial (fun hHeld => ?_)
     clear hK K
     try simp only [Act.put, List.setIfInBounds_toArray, List.set_cons_zero, List.set_cons_succ]
     refine wpAnyH_take (i := 13) (oi := { dst := some 73, op := Op.indexAddr 28 (Operand.tmp 61) (Operand.tmp 62), type := 0, pos := "ref.go:179", after := #[{ on := 1, ground := Ground.data }, { on := 2, ground := Ground.data }, { on := 0, ground := Ground.phase }, { on := 1, ground := Ground.phase }, { on := 2, ground := Ground.phase }, { on := 3, ground := Ground.phase }, { on := 4, ground := Ground.phase }, { on := 5, ground := Ground.phase }, { on := 6, ground := Ground.phase }, { on := 7, ground := Ground.phase }, { on := 8, ground := Ground.phase }, { on := 9, ground := Ground.phase }, { on := 10, ground := Ground.phase }, { on := 11, ground := Ground.phase }, { on := 12, ground := Ground.phase }], guard := none }) (v := ?pecbcbbv13) rfl (by kernel_rfl) (by kernel_rfl) (by kernel_rfl) (fun _ _ _ h => h) (Or.inl ⟨by rfl, ?pecbcbbh13⟩) (by assumption) ?pecbcbbr13
     case pecbcbbh13 => ((intro w hSw; (try dsimp only at hSw); go_simp); try with_reducible rfl)
     try simp only [Act.put, List.setIfInBounds_toArray, List.set_cons_zero, List.set_cons_succ]
     refine wpAnyH_take (i := 14) (oi := { dst := some 74, op := Op.fieldAddr 50 (Operand.tmp 73) 3, type := 0, pos := "ref.go:179", after := #[{ on := 13, ground := Ground.data }, { on := 0, ground := Ground.phase }, { on := 1, ground := Ground.phase }, { on := 2, ground := Ground.phase }, { on := 3, ground := Ground.phase }, { on := 4, ground := Ground.phase }, { on := 5, ground := Ground.phase }, { on := 6, ground := Ground.phase }, { on := 7, ground := Ground.phase }, { on := 8, ground := Ground.phase }, { on := 9, ground := Ground.phase }, { on := 10, ground := Ground.phase }, { on := 11, ground := Ground.phase }, { on := 12, ground := Ground.phase }], guard := none }) (v := ?pecbcbbv14) rfl (by kernel_rfl) (by kernel_rfl) (by kernel_rfl) (fun _ _ _ h => h) (Or.inl ⟨by rfl, ?pecbcbbh14⟩) (by assumption) ?pecbcbbr14
     case pecbcbbh14 => ((intro w hSw; (try dsimp only at hSw); go_simp); try with_reducible rfl)
     try simp only [Act.put, List.setIfInBounds_toArray, List.set_cons_zero, List.set_cons_succ]
     refine wpAnyH_ready (rs := [15]) (by kernel_rfl) (by simp) ?_
     refine AllReadyH.cons (o := { dst := none, op := Op.store 48 (Operand.tmp 74) (Operand.tmp 72), type := 0, pos := "ref.go:179", after := #[{ on := 14, ground := Ground.data }, { on := 12, ground := Ground.data }, { on := 12, ground := Ground.chain }, { on := 0, ground := Ground.phase }, { on := 1, ground := Ground.phase }, { on := 2, ground := Ground.phase }, { on := 3, ground := Ground.phase }, { on := 4, ground := Ground.phase }, { on := 5, ground := Ground.phase }, { on := 6, ground := Ground.phase }, { on := 7, ground := Ground.phase }, { on := 8, ground := Ground.phase }, { on := 9, ground := Ground.phase }, { on := 10, ground := Ground.phase }, { on := 11, ground := Ground.phase }, { on := 12, ground := Ground.phase }], guard := none }) rfl (fun K hK => ?_) AllReadyH.nil
     go_simp; refine hK.out _ _ trivial (fun hHeld => ?_)
     clear hK K
     try simp only [Act.put, List.setIfInBounds_toArray, List.set_cons_zero, List.set_cons_succ]
     refine wpAnyH_done (by kernel_rfl) ?_ _
     go_wp2_with fail
     obtain ⟨X5, h5⟩ := HF5.out
     exact ⟨⟨j + 1, by omega, by go_num, X5, _, _, h5⟩, by simp [intOf]; omega⟩
    refine AllReadyH.cons (o := { dst := some 71, op := Op.call { callee := Callee.value (Operand.func 51), args := #[Operand.tmp 70], argTypes := #[48] }, type := 48, pos := "ref.go:179", after := #[{ on := 10, ground := Ground.data }], guard := none }) rfl (fun K hK => ?_) AllReadyH.nil
    go_simp; go_at_call 51; (with_reducible refine HCP.out.mono ?_); rintro e w2 ⟨⟨v, xs, rfl, hxo, hxp, hxk⟩, hb2⟩; rw [← HNQ.out] at hxo; obtain ⟨cp2, cc2, rfl, hxr, hxn⟩ := own_sh hxo; have ob2 := (hb2.cell (p := ⟨w0.heap.size, 0, none⟩) hg4l).trans ob0; have hg2 := (hb2.cell (p := ⟨g4, i * 4 + 3, none⟩) hgl).trans hg3; have HB2 := hid hb2; have HXP := hid hxp; have HXK := hid hxk; have HXR := hid hxr; clear hxo hb2 hxp hxk hxr; refine hK.out _ _ trivial (fun hHeld => ?_)
    clear hK K
    try simp only [Act.put, List.setIfInBounds_toArray, List.set_cons_zero, List.set_cons_succ]
    refine wpAnyH_ready (rs := [1, 4]) (by kernel_rfl) (by simp) ?_
    refine AllReadyH.cons (o := { dst := some 61, op := Op.load 28 (Operand.tmp 60), type := 28, pos := "ref.go:179", after := #[{ on := 0, ground := Ground.data }], guard := none }) rfl (fun K hK => ?_) ?_
    ·go_simp; refine hK.out _ _ trivial (fun hHeld => ?_)
     clear hK K
     try simp only [Act.put, List.setIfInBounds_toArray, List.set_cons_zero, List.set_cons_succ]
     refine wpAnyH_ready (rs := [4]) (by kernel_rfl) (by simp) ?_
     refine AllReadyH.cons (o := { dst := some 64, op := Op.load 28 (Operand.tmp 63), type := 28, pos := "ref.go:179", after := #[{ on := 3, ground := Ground.data }], guard := none }) rfl (fun K hK => ?_) AllReadyH.nil
     go_simp; refine hK.out _ _ trivial (fun hHeld => ?_)
     clear hK K
     try simp only [Act.put, List.setIfInBounds_toArray, List.set_cons_zero, List.set_cons_succ]
     refine wpAnyH_take (i := 6) (oi := { dst := some 66, op := Op.indexAddr 28 (Operand.tmp 64) (Operand.tmp 65), type := 0, pos := "ref.go:179", after := #[{ on := 4, ground := Ground.data }, { on := 5, ground := Ground.data }], guard := none }) (v := ?peccav6) rfl (by kernel_rfl) (by kernel_rfl) (by kernel_rfl) (fun _ _ _ h => h) (Or.inl ⟨by rfl, ?peccah6⟩) (by assumption) ?peccar6
     case peccah6 => ((intro w hSw; (try dsimp only at hSw); go_simp); try with_reducible rfl)
     try simp only [Act.put, List.setIfInBounds_toArray, List.set_cons_zero, List.set_cons_succ]
     refine wpAnyH_take (i := 7) (oi := { dst := some 67, op := Op.fieldAddr 50 (Operand.tmp 66) 3, type := 0, pos := "ref.go:179", after := #[{ on := 6, ground := Ground.data }], guard := none }) (v := ?peccav7) rfl (by kernel_rfl) (by kernel_rfl) (by kernel_rfl) (fun _ _ _ h => h) (Or.inl ⟨by rfl, ?peccah7⟩) (by assumption) ?peccar7
     case peccah7 => ((intro w hSw; (try dsimp only at hSw); go_simp); try with_reducible rfl)
     try simp only [Act.put, List.setIfInBounds_toArray, List.set_cons_zero, List.set_cons_succ]
     refine wpAnyH_ready (rs := [8]) (by kernel_rfl) (by simp) ?_
     refine AllReadyH.cons (o := { dst := some 68, op := Op.load 48 (Operand.tmp 67), type := 48, pos := "ref.go:179", after := #[{ on := 7, ground := Ground.data }], guard := none }) rfl (fun K hK => ?_) AllReadyH.nil
     go_simp; refine hK.out _ _ trivial (fun hHeld => ?_)
     clear hK K
     try simp only [Act.put, List.setIfInBounds_toArray, List.set_cons_zero, List.set_cons_succ]
     refine wpAnyH_ready (rs := [12]) (by kernel_rfl) (by simp) ?_
     refine AllReadyH.cons (o := { dst := some 72, op := Op.call { callee := Callee.builtin Builtin.append, args := #[Operand.tmp 68, Operand.tmp 71], argTypes := #[48, 48] }, type := 48, pos := "ref.go:179", after := #[{ on := 8, ground := Ground.data }, { on := 11, ground := Ground.data }, { on := 11, ground := Ground.chain }], guard := none }) rfl (fun K hK => ?_) AllReadyH.nil
     (refine step_appO EPiece rfl (.tmp 68) (.tmp 71) rfl W.heap.size (.slice zp zl.length zc) zl.length (zl.flatMap PcR.cells) rfl (own_below HZO.out HB2.out) cp2 NQ cc2 (xs.flatMap PcR.cells) rfl (HXO.out _ HXP.out) hxn HXR.out (fun v hv => by obtain ⟨t, -, h⟩ := List.mem_flatMap.1 hv; exact pcr_ones t v h) (by unfold maxLen; omega) (by omega) (Nat.le_trans hbwd HB2.out.size) ?_); intro v5 w5 ho5 hg5 hs5; obtain ⟨p5, c5, rfl, -⟩ := own_shape ho5; obtain ⟨t3, t4, t5⟩ := HG4.out _ _ HB2.out hg5; have HF5 := hid (HFIN.out _ _ _ _ _ HB2.out HXP.out HXK.out ho5 hg5 hs5); clear ho5 hg5 hs5; refine hK.out _ _ trivial (fun hHeld => ?_)
     clear hK K
     try simp only [Act.put, List.setIfInBounds_toArray, List.set_cons_zero, List.set_cons_succ]
     refine wpAnyH_take (i := 13) (oi := { dst := some 73, op := Op.indexAddr 28 (Operand.tmp 61) (Operand.tmp 62), type := 0, pos := "ref.go:179", after := #[{ on := 1, ground := Ground.data }, { on := 2, ground := Ground.data }, { on := 0, ground := Ground.phase }, { on := 1, ground := Ground.phase }, { on := 2, ground := Ground.phase }, { on := 3, ground := Ground.phase }, { on := 4, ground := Ground.phase }, { on := 5, ground := Ground.phase }, { on := 6, ground := Ground.phase }, { on := 7, ground := Ground.phase }, { on := 8, ground := Ground.phase }, { on := 9, ground := Ground.phase }, { on := 10, ground := Ground.phase }, { on := 11, ground := Ground.phase }, { on := 12, ground := Ground.phase }], guard := none }) (v := ?peccav13) rfl (by kernel_rfl) (by kernel_rfl) (by kernel_rfl) (fun _ _ _ h => h) (Or.inl ⟨by rfl, ?peccah13⟩) (by assumption) ?peccar13
     case peccah13 => ((intro w hSw; (try dsimp only at hSw); go_simp); try with_reducible rfl)
     try simp only [Act.put, List.setIfInBounds_toArray, List.set_cons_zero, List.set_cons_succ]
     refine wpAnyH_take (i := 14) (oi := { dst := some 74, op := Op.fieldAddr 50 (Operand.tmp 73) 3, type := 0, pos := "ref.go:179", after := #[{ on := 13, ground := Ground.data }, { on := 0, ground := Ground.phase }, { on := 1, ground := Ground.phase }, { on := 2, ground := Ground.phase }, { on := 3, ground := Ground.phase }, { on := 4, ground := Ground.phase }, { on := 5, ground := Ground.phase }, { on := 6, ground := Ground.phase }, { on := 7, ground := Ground.phase }, { on := 8, ground := Ground.phase }, { on := 9, ground := Ground.phase }, { on := 10, ground := Ground.phase }, { on := 11, ground := Ground.phase }, { on := 12, ground := Ground.phase }], guard := none }) (v := ?peccav14) rfl (by kernel_rfl) (by kernel_rfl) (by kernel_rfl) (fun _ _ _ h => h) (Or.inl ⟨by rfl, ?peccah14⟩) (by assumption) ?peccar14
     case peccah14 => ((intro w hSw; (try dsimp only at hSw); go_simp); try with_reducible rfl)
     try simp only [Act.put, List.setIfInBounds_toArray, List.set_cons_zero, List.set_cons_succ]
     refine wpAnyH_ready (rs := [15]) (by kernel_rfl) (by simp) ?_
     refine AllReadyH.cons (o := { dst := none, op := Op.store 48 (Operand.tmp 74) (Operand.tmp 72), type := 0, pos := "ref.go:179", after := #[{ on := 14, ground := Ground.data }, { on := 12, ground := Ground.data }, { on := 12, ground := Ground.chain }, { on := 0, ground := Ground.phase }, { on := 1, ground := Ground.phase }, { on := 2, ground := Ground.phase }, { on := 3, ground := Ground.phase }, { on := 4, ground := Ground.phase }, { on := 5, ground := Ground.phase }, { on := 6, ground := Ground.phase }, { on := 7, ground := Ground.phase }, { on := 8, ground := Ground.phase }, { on := 9, ground := Ground.phase }, { on := 10, ground := Ground.phase }, { on := 11, ground := Ground.phase }, { on := 12, ground := Ground.phase }], guard := none }) rfl (fun K hK => ?_) AllReadyH.nil
     go_simp; refine hK.out _ _ trivial (fun hHeld => ?_)
     clear hK K
     try simp only [Act.put, List.setIfInBounds_toArray, List.set_cons_zero, List.set_cons_succ]
     refine wpAnyH_done (by kernel_rfl) ?_ _
     go_wp2_with fail
     obtain ⟨X5, h5⟩ := HF5.out
     exact ⟨⟨j + 1, by omega, by go_num, X5, _, _, h5⟩, by simp [intOf]; omega⟩
    refine AllReadyH.cons (o := { dst := some 64, op := Op.load 28 (Operand.tmp 63), type := 28, pos := "ref.go:179", after := #[{ on := 3, ground := Ground.data }], guard := none }) rfl (fun K hK => ?_) AllReadyH.nil
    go_simp; refine hK.out _ _ trivial (fun hHeld => ?_)
    clear hK K
    try simp only [Act.put, List.setIfInBounds_toArray, List.set_cons_zero, List.set_cons_succ]
    refine wpAnyH_take (i := 6) (oi := { dst := some 66, op := Op.indexAddr 28 (Operand.tmp 64) (Operand.tmp 65), type := 0, pos := "ref.go:179", after := #[{ on := 4, ground := Ground.data }, { on := 5, ground := Ground.data }], guard := none }) (v := ?peccbv6) rfl (by kernel_rfl) (by kernel_rfl) (by kernel_rfl) (fun _ _ _ h => h) (Or.inl ⟨by rfl, ?peccbh6⟩) (by assumption) ?peccbr6
    case peccbh6 => ((intro w hSw; (try dsimp only at hSw); go_simp); try with_reducible rfl)
    try simp only [Act.put, List.setIfInBounds_toArray, List.set_cons_zero, List.set_cons_succ]
    refine wpAnyH_take (i := 7) (oi := { dst := some 67, op := Op.fieldAddr 50 (Operand.tmp 66) 3, type := 0, pos := "ref.go:179", after := #[{ on := 6, ground := Ground.data }], guard := none }) (v := ?peccbv7) rfl (by kernel_rfl) (by kernel_rfl) (by kernel_rfl) (fun _ _ _ h => h) (Or.inl ⟨by rfl, ?peccbh7⟩) (by assumption) ?peccbr7
    case peccbh7 => ((intro w hSw; (try dsimp only at hSw); go_simp); try with_reducible rfl)
    try simp only [Act.put, List.setIfInBounds_toArray, List.set_cons_zero, List.set_cons_succ]
    refine wpAnyH_ready (rs := [1, 8]) (by kernel_rfl) (by simp) ?_
    refine AllReadyH.cons (o := { dst := some 61, op := Op.load 28 (Operand.tmp 60), type := 28, pos := "ref.go:179", after := #[{ on := 0, ground := Ground.data }], guard := none }) rfl (fun K hK => ?_) ?_
    ·go_simp; refine hK.out _ _ trivial (fun hHeld => ?_)
     clear hK K
     try simp only [Act.put, List.setIfInBounds_toArray, List.set_cons_zero, List.set_cons_succ]
     refine wpAnyH_ready (rs := [8]) (by kernel_rfl) (by simp) ?_
     refine AllReadyH.cons (o := { dst := some 68, op := Op.load 48 (Operand.tmp 67), type := 48, pos := "ref.go:179", after := #[{ on := 7, ground := Ground.data }], guard := none }) rfl (fun K hK => ?_) AllReadyH.nil
     go_simp; refine hK.out _ _ trivial (fun hHeld => ?_)
     clear hK K
     try simp only [Act.put, List.setIfInBounds_toArray, List.set_cons_zero, List.set_cons_succ]
     refine wpAnyH_ready (rs := [12]) (by kernel_rfl) (by simp) ?_
     refine AllReadyH.cons (o := { dst := some 72, op := Op.call { callee := Callee.builtin Builtin.append, args := #[Operand.tmp 68, Operand.tmp 71], argTypes := #[48, 48] }, type := 48, pos := "ref.go:179", after := #[{ on := 8, ground := Ground.data }, { on := 11, ground := Ground.data }, { on := 11, ground := Ground.chain }], guard := none }) rfl (fun K hK => ?_) AllReadyH.nil
     (refine step_appO EPiece rfl (.tmp 68) (.tmp 71) rfl W.heap.size (.slice zp zl.length zc) zl.length (zl.flatMap PcR.cells) rfl (own_below HZO.out HB2.out) cp2 NQ cc2 (xs.flatMap PcR.cells) rfl (HXO.out _ HXP.out) hxn HXR.out (fun v hv => by obtain ⟨t, -, h⟩ := List.mem_flatMap.1 hv; exact pcr_ones t v h) (by unfold maxLen; omega) (by omega) (Nat.le_trans hbwd HB2.out.size) ?_); intro v5 w5 ho5 hg5 hs5; obtain ⟨p5, c5, rfl, -⟩ := own_shape ho5; obtain ⟨t3, t4, t5⟩ := HG4.out _ _ HB2.out hg5; have HF5 := hid (HFIN.out _ _ _ _ _ HB2.out HXP.out HXK.out ho5 hg5 hs5); clear ho5 hg5 hs5; refine hK.out _ _ trivial (fun hHeld => ?_)
     clear hK K
     try simp only [Act.put, List.setIfInBounds_toArray, List.set_cons_zero, List.set_cons_succ]
     refine wpAnyH_take (i := 13) (oi := { dst := some 73, op := Op.indexAddr 28 (Operand.tmp 61) (Operand.tmp 62), type := 0, pos := "ref.go:179", after := #[{ on := 1, ground := Ground.data }, { on := 2, ground := Ground.data }, { on := 0, ground := Ground.phase }, { on := 1, ground := Ground.phase }, { on := 2, ground := Ground.phase }, { on := 3, ground := Ground.phase }, { on := 4, ground := Ground.phase }, { on := 5, ground := Ground.phase }, { on := 6, ground := Ground.phase }, { on := 7, ground := Ground.phase }, { on := 8, ground := Ground.phase }, { on := 9, ground := Ground.phase }, { on := 10, ground := Ground.phase }, { on := 11, ground := Ground.phase }, { on := 12, ground := Ground.phase }], guard := none }) (v := ?peccbav13) rfl (by kernel_rfl) (by kernel_rfl) (by kernel_rfl) (fun _ _ _ h => h) (Or.inl ⟨by rfl, ?peccbah13⟩) (by assumption) ?peccbar13
     case peccbah13 => ((intro w hSw; (try dsimp only at hSw); go_simp); try with_reducible rfl)
     try simp only [Act.put, List.setIfInBounds_toArray, List.set_cons_zero, List.set_cons_succ]
     refine wpAnyH_take (i := 14) (oi := { dst := some 74, op := Op.fieldAddr 50 (Operand.tmp 73) 3, type := 0, pos := "ref.go:179", after := #[{ on := 13, ground := Ground.data }, { on := 0, ground := Ground.phase }, { on := 1, ground := Ground.phase }, { on := 2, ground := Ground.phase }, { on := 3, ground := Ground.phase }, { on := 4, ground := Ground.phase }, { on := 5, ground := Ground.phase }, { on := 6, ground := Ground.phase }, { on := 7, ground := Ground.phase }, { on := 8, ground := Ground.phase }, { on := 9, ground := Ground.phase }, { on := 10, ground := Ground.phase }, { on := 11, ground := Ground.phase }, { on := 12, ground := Ground.phase }], guard := none }) (v := ?peccbav14) rfl (by kernel_rfl) (by kernel_rfl) (by kernel_rfl) (fun _ _ _ h => h) (Or.inl ⟨by rfl, ?peccbah14⟩) (by assumption) ?peccbar14
     case peccbah14 => ((intro w hSw; (try dsimp only at hSw); go_simp); try with_reducible rfl)
     try simp only [Act.put, List.setIfInBounds_toArray, List.set_cons_zero, List.set_cons_succ]
     refine wpAnyH_ready (rs := [15]) (by kernel_rfl) (by simp) ?_
     refine AllReadyH.cons (o := { dst := none, op := Op.store 48 (Operand.tmp 74) (Operand.tmp 72), type := 0, pos := "ref.go:179", after := #[{ on := 14, ground := Ground.data }, { on := 12, ground := Ground.data }, { on := 12, ground := Ground.chain }, { on := 0, ground := Ground.phase }, { on := 1, ground := Ground.phase }, { on := 2, ground := Ground.phase }, { on := 3, ground := Ground.phase }, { on := 4, ground := Ground.phase }, { on := 5, ground := Ground.phase }, { on := 6, ground := Ground.phase }, { on := 7, ground := Ground.phase }, { on := 8, ground := Ground.phase }, { on := 9, ground := Ground.phase }, { on := 10, ground := Ground.phase }, { on := 11, ground := Ground.phase }, { on := 12, ground := Ground.phase }], guard := none }) rfl (fun K hK => ?_) AllReadyH.nil
     go_simp; refine hK.out _ _ trivial (fun hHeld => ?_)
     clear hK K
     try simp only [Act.put, List.setIfInBounds_toArray, List.set_cons_zero, List.set_cons_succ]
     refine wpAnyH_done (by kernel_rfl) ?_ _
     go_wp2_with fail
     obtain ⟨X5, h5⟩ := HF5.out
     exact ⟨⟨j + 1, by omega, by go_num, X5, _, _, h5⟩, by simp [intOf]; omega⟩
    refine AllReadyH.cons (o := { dst := some 68, op := Op.load 48 (Operand.tmp 67), type := 48, pos := "ref.go:179", after := #[{ on := 7, ground := Ground.data }], guard := none }) rfl (fun K hK => ?_) AllReadyH.nil
    go_simp; refine hK.out _ _ trivial (fun hHeld => ?_)
    clear hK K
    try simp only [Act.put, List.setIfInBounds_toArray, List.set_cons_zero, List.set_cons_succ]
    refine wpAnyH_ready (rs := [1, 12]) (by kernel_rfl) (by simp) ?_
    refine AllReadyH.cons (o := { dst := some 61, op := Op.load 28 (Operand.tmp 60), type := 28, pos := "ref.go:179", after := #[{ on := 0, ground := Ground.data }], guard := none }) rfl (fun K hK => ?_) ?_
    ·go_simp; refine hK.out _ _ trivial (fun hHeld => ?_)
     clear hK K
     try simp only [Act.put, List.setIfInBounds_toArray, List.set_cons_zero, List.set_cons_succ]
     refine wpAnyH_ready (rs := [12]) (by kernel_rfl) (by simp) ?_
     refine AllReadyH.cons (o := { dst := some 72, op := Op.call { callee := Callee.builtin Builtin.append, args := #[Operand.tmp 68, Operand.tmp 71], argTypes := #[48, 48] }, type := 48, pos := "ref.go:179", after := #[{ on := 8, ground := Ground.data }, { on := 11, ground := Ground.data }, { on := 11, ground := Ground.chain }], guard := none }) rfl (fun K hK => ?_) AllReadyH.nil
     (refine step_appO EPiece rfl (.tmp 68) (.tmp 71) rfl W.heap.size (.slice zp zl.length zc) zl.length (zl.flatMap PcR.cells) rfl (own_below HZO.out HB2.out) cp2 NQ cc2 (xs.flatMap PcR.cells) rfl (HXO.out _ HXP.out) hxn HXR.out (fun v hv => by obtain ⟨t, -, h⟩ := List.mem_flatMap.1 hv; exact pcr_ones t v h) (by unfold maxLen; omega) (by omega) (Nat.le_trans hbwd HB2.out.size) ?_); intro v5 w5 ho5 hg5 hs5; obtain ⟨p5, c5, rfl, -⟩ := own_shape ho5; obtain ⟨t3, t4, t5⟩ := HG4.out _ _ HB2.out hg5; have HF5 := hid (HFIN.out _ _ _ _ _ HB2.out HXP.out HXK.out ho5 hg5 hs5); clear ho5 hg5 hs5; refine hK.out _ _ trivial (fun hHeld => ?_)
     clear hK K
     try simp only [Act.put, List.setIfInBounds_toArray, List.set_cons_zero, List.set_cons_succ]
     refine wpAnyH_take (i := 13) (oi := { dst := some 73, op := Op.indexAddr 28 (Operand.tmp 61) (Operand.tmp 62), type := 0, pos := "ref.go:179", after := #[{ on := 1, ground := Ground.data }, { on := 2, ground := Ground.data }, { on := 0, ground := Ground.phase }, { on := 1, ground := Ground.phase }, { on := 2, ground := Ground.phase }, { on := 3, ground := Ground.phase }, { on := 4, ground := Ground.phase }, { on := 5, ground := Ground.phase }, { on := 6, ground := Ground.phase }, { on := 7, ground := Ground.phase }, { on := 8, ground := Ground.phase }, { on := 9, ground := Ground.phase }, { on := 10, ground := Ground.phase }, { on := 11, ground := Ground.phase }, { on := 12, ground := Ground.phase }], guard := none }) (v := ?peccbbav13) rfl (by kernel_rfl) (by kernel_rfl) (by kernel_rfl) (fun _ _ _ h => h) (Or.inl ⟨by rfl, ?peccbbah13⟩) (by assumption) ?peccbbar13
     case peccbbah13 => ((intro w hSw; (try dsimp only at hSw); go_simp); try with_reducible rfl)
     try simp only [Act.put, List.setIfInBounds_toArray, List.set_cons_zero, List.set_cons_succ]
     refine wpAnyH_take (i := 14) (oi := { dst := some 74, op := Op.fieldAddr 50 (Operand.tmp 73) 3, type := 0, pos := "ref.go:179", after := #[{ on := 13, ground := Ground.data }, { on := 0, ground := Ground.phase }, { on := 1, ground := Ground.phase }, { on := 2, ground := Ground.phase }, { on := 3, ground := Ground.phase }, { on := 4, ground := Ground.phase }, { on := 5, ground := Ground.phase }, { on := 6, ground := Ground.phase }, { on := 7, ground := Ground.phase }, { on := 8, ground := Ground.phase }, { on := 9, ground := Ground.phase }, { on := 10, ground := Ground.phase }, { on := 11, ground := Ground.phase }, { on := 12, ground := Ground.phase }], guard := none }) (v := ?peccbbav14) rfl (by kernel_rfl) (by kernel_rfl) (by kernel_rfl) (fun _ _ _ h => h) (Or.inl ⟨by rfl, ?peccbbah14⟩) (by assumption) ?peccbbar14
     case peccbbah14 => ((intro w hSw; (try dsimp only at hSw); go_simp); try with_reducible rfl)
     try simp only [Act.put, List.setIfInBounds_toArray, List.set_cons_zero, List.set_cons_succ]
     refine wpAnyH_ready (rs := [15]) (by kernel_rfl) (by simp) ?_
     refine AllReadyH.cons (o := { dst := none, op := Op.store 48 (Operand.tmp 74) (Operand.tmp 72), type := 0, pos := "ref.go:179", after := #[{ on := 14, ground := Ground.data }, { on := 12, ground := Ground.data }, { on := 12, ground := Ground.chain }, { on := 0, ground := Ground.phase }, { on := 1, ground := Ground.phase }, { on := 2, ground := Ground.phase }, { on := 3, ground := Ground.phase }, { on := 4, ground := Ground.phase }, { on := 5, ground := Ground.phase }, { on := 6, ground := Ground.phase }, { on := 7, ground := Ground.phase }, { on := 8, ground := Ground.phase }, { on := 9, ground := Ground.phase }, { on := 10, ground := Ground.phase }, { on := 11, ground := Ground.phase }, { on := 12, ground := Ground.phase }], guard := none }) rfl (fun K hK => ?_) AllReadyH.nil
     go_simp; refine hK.out _ _ trivial (fun hHeld => ?_)
     clear hK K
     try simp only [Act.put, List.setIfInBounds_toArray, List.set_cons_zero, List.set_cons_succ]
     refine wpAnyH_done (by kernel_rfl) ?_ _
     go_wp2_with fail
     obtain ⟨X5, h5⟩ := HF5.out
     exact ⟨⟨j + 1, by omega, by go_num, X5, _, _, h5⟩, by simp [intOf]; omega⟩
    refine AllReadyH.cons (o := { dst := some 72, op := Op.call { callee := Callee.builtin Builtin.append, args := #[Operand.tmp 68, Operand.tmp 71], argTypes := #[48, 48] }, type := 48, pos := "ref.go:179", after := #[{ on := 8, ground := Ground.data }, { on := 11, ground := Ground.data }, { on := 11, ground := Ground.chain }], guard := none }) rfl (fun K hK => ?_) AllReadyH.nil
    (refine step_appO EPiece rfl (.tmp 68) (.tmp 71) rfl W.heap.size (.slice zp zl.length zc) zl.length (zl.flatMap PcR.cells) rfl (own_below HZO.out HB2.out) cp2 NQ cc2 (xs.flatMap PcR.cells) rfl (HXO.out _ HXP.out) hxn HXR.out (fun v hv => by obtain ⟨t, -, h⟩ := List.mem_flatMap.1 hv; exact pcr_ones t v h) (by unfold maxLen; omega) (by omega) (Nat.le_trans hbwd HB2.out.size) ?_); intro v5 w5 ho5 hg5 hs5; obtain ⟨p5, c5, rfl, -⟩ := own_shape ho5; obtain ⟨t3, t4, t5⟩ := HG4.out _ _ HB2.out hg5; have HF5 := hid (HFIN.out _ _ _ _ _ HB2.out HXP.out HXK.out ho5 hg5 hs5); clear ho5 hg5 hs5; refine hK.out _ _ trivial (fun hHeld => ?_)
    clear hK K
    try simp only [Act.put, List.setIfInBounds_toArray, List.set_cons_zero, List.set_cons_succ]
    refine wpAnyH_ready (rs := [1]) (by kernel_rfl) (by simp) ?_
    refine AllReadyH.cons (o := { dst := some 61, op := Op.load 28 (Operand.tmp 60), type := 28, pos := "ref.go:179", after := #[{ on := 0, ground := Ground.data }], guard := none }) rfl (fun K hK => ?_) AllReadyH.nil
    go_simp; refine hK.out _ _ trivial (fun hHeld => ?_)
    clear hK K
    try simp only [Act.put, List.setIfInBounds_toArray, List.set_cons_zero, List.set_cons_succ]
    refine wpAnyH_take (i := 13) (oi := { dst := some 73, op := Op.indexAddr 28 (Operand.tmp 61) (Operand.tmp 62), type := 0, pos := "ref.go:179", after := #[{ on := 1, ground := Ground.data }, { on := 2, ground := Ground.data }, { on := 0, ground := Ground.phase }, { on := 1, ground := Ground.phase }, { on := 2, ground := Ground.phase }, { on := 3, ground := Ground.phase }, { on := 4, ground := Ground.phase }, { on := 5, ground := Ground.phase }, { on := 6, ground := Ground.phase }, { on := 7, ground := Ground.phase }, { on := 8, ground := Ground.phase }, { on := 9, ground := Ground.phase }, { on := 10, ground := Ground.phase }, { on := 11, ground := Ground.phase }, { on := 12, ground := Ground.phase }], guard := none }) (v := ?peccbbbv13) rfl (by kernel_rfl) (by kernel_rfl) (by kernel_rfl) (fun _ _ _ h => h) (Or.inl ⟨by rfl, ?peccbbbh13⟩) (by assumption) ?peccbbbr13
    case peccbbbh13 => ((intro w hSw; (try dsimp only at hSw); go_simp); try with_reducible rfl)
    try simp only [Act.put, List.setIfInBounds_toArray, List.set_cons_zero, List.set_cons_succ]
    refine wpAnyH_take (i := 14) (oi := { dst := some 74, op := Op.fieldAddr 50 (Operand.tmp 73) 3, type := 0, pos := "ref.go:179", after := #[{ on := 13, ground := Ground.data }, { on := 0, ground := Ground.phase }, { on := 1, ground := Ground.phase }, { on := 2, ground := Ground.phase }, { on := 3, ground := Ground.phase }, { on := 4, ground := Ground.phase }, { on := 5, ground := Ground.phase }, { on := 6, ground := Ground.phase }, { on := 7, ground := Ground.phase }, { on := 8, ground := Ground.phase }, { on := 9, ground := Ground.phase }, { on := 10, ground := Ground.phase }, { on := 11, ground := Ground.phase }, { on := 12, ground := Ground.phase }], guard := none }) (v := ?peccbbbv14) rfl (by kernel_rfl) (by kernel_rfl) (by kernel_rfl) (fun _ _ _ h => h) (Or.inl ⟨by rfl, ?peccbbbh14⟩) (by assumption) ?peccbbbr14
    case peccbbbh14 => ((intro w hSw; (try dsimp only at hSw); go_simp); try with_reducible rfl)
    try simp only [Act.put, List.setIfInBounds_toArray, List.set_cons_zero, List.set_cons_succ]
    refine wpAnyH_ready (rs := [15]) (by kernel_rfl) (by simp) ?_
    refine AllReadyH.cons (o := { dst := none, op := Op.store 48 (Operand.tmp 74) (Operand.tmp 72), type := 0, pos := "ref.go:179", after := #[{ on := 14, ground := Ground.data }, { on := 12, ground := Ground.data }, { on := 12, ground := Ground.chain }, { on := 0, ground := Ground.phase }, { on := 1, ground := Ground.phase }, { on := 2, ground := Ground.phase }, { on := 3, ground := Ground.phase }, { on := 4, ground := Ground.phase }, { on := 5, ground := Ground.phase }, { on := 6, ground := Ground.phase }, { on := 7, ground := Ground.phase }, { on := 8, ground := Ground.phase }, { on := 9, ground := Ground.phase }, { on := 10, ground := Ground.phase }, { on := 11, ground := Ground.phase }, { on := 12, ground := Ground.phase }], guard := none }) rfl (fun K hK => ?_) AllReadyH.nil
    go_simp; refine hK.out _ _ trivial (fun hHeld => ?_)
    clear hK K
    try simp only [Act.put, List.setIfInBounds_toArray, List.set_cons_zero, List.set_cons_succ]
    refine wpAnyH_done (by kernel_rfl) ?_ _
    go_wp2_with fail
    obtain ⟨X5, h5⟩ := HF5.out
    exact ⟨⟨j + 1, by omega, by go_num, X5, _, _, h5⟩, by simp [intOf]; omega⟩
  ·have hje : j = NP := by omega
   subst hje
   obtain ⟨NMK, hNMK⟩ : ∃ NMK, NMK = u.marks.l.length := ⟨_, rfl⟩
   have HNMK := hid hNMK
   have hfull : u.parts.l.take j = u.parts.l := List.take_of_length_le (by rw [HNP.out]; exact Nat.le_refl _)
   obtain ⟨n2, hn2⟩ : ∃ n2, n2 = n + ptCost u.parts.l := ⟨_, rfl⟩
   have HN2 := hid hn2
   have hn2b : n2 + NMK ≤ 2000000 := by
    have h1 := HC.out
    have h4 : u.cost = ptCost u.parts.l + u.marks.l.length + u.globals.l.length := rfl
    omega
   have HMJ0 : Hid (MJR W w0 X1 PL FL u.marks.l n2 u 0 u5 u6 X1 wy) := ⟨h1.ri, rfl, by rw [List.take_zero]; simp, rfl, by have := h1.sm; rw [hfull] at this; rw [hn2]; exact this, h1.ax⟩
   have HPLL : Hid (PL.length = j ∧ FL.length = j) := by
    have h2 := congrArg (fun q => q.2.1.length) h1.pl
    have h3 := congrArg (fun q => q.2.2.length) h1.pl
    dsimp only at h2 h3
    rw [(joinParts_ms _ _).2.2.2.1, hfull] at h2
    rw [(joinParts_ms _ _).2.2.2.2, hfull] at h3
    simp at h2 h3
    have h4 := HNP.out
    exact ⟨by omega, by omega⟩
   have HF1 : Hid ((X1.pl, PL, FL) = joinParts (X.pl, [], []) (u.parts.l.map PtR.pl)) := by have := h1.pl; rw [hfull] at this; exact this
   clear hNMK h1 hfull hn2
   go_wp2_with fail
   clear v0
   go_loopw [10] (fun iv wm => ∃ (m : Nat), m ≤ NMK ∧ iv = .int .i64 m ∧ ∃ X6, MJR W w0 X1 PL FL u.marks.l n2 u m u5 u6 X6 wm) (fun iv _ => NMK - (intOf iv).toNat)
   case atStart => exact ⟨0, Nat.zero_le _, rfl, X1, HMJ0.out⟩
   case round =>
    rename World => wm
    obtain ⟨m, hm, rfl, X6, h6⟩ := hrel
    have H6 := hid h6
    clear HMJ0
    have v1 := cell_of_row _ _ 1 _ _ _ h6.ri.mb
    simp only [UnR.cells, Sl.val, List.getElem?_toArray, List.getElem?_cons_zero, List.getElem?_cons_succ] at v1
    rw [← HNMK.out] at v1
    by_cases hml : m < NMK
    ·have hmI : (m : Int) < NMK := by omega
     have hml2 : m < u.marks.l.length := by rw [← HNMK.out]; exact hml
     have hmr := HUI.out.mr.below h6.ri.b
     obtain ⟨kb, ko, hke, -, -⟩ := hmr.at (by rw [flat_len Mk.cells 9 (fun _ => rfl)]; omega)
     rw [hke] at hmr v1
     obtain ⟨x0, x1, x2, x3, x4, x5, x6, x7, x8⟩ := mk_cells hmr m hml2
     have HTM : Hid (u.marks.l.take (m + 1) = u.marks.l.take m ++ [u.marks.l[m]]) := by unfold Hid; rw [List.take_add_one, List.getElem?_eq_getElem hml2]; rfl
     generalize u.marks.l[m] = x at *
     obtain ⟨W9, hW9⟩ : ∃ W9, W9 = wm.alloc (.cells #[.string x.name, .int .i64 x.file, .int .i64 x.line, .int .i64 x.part, .int .i64 x.piece, .bool x.equ, .int .i64 x.v.add, .string x.v.plus, .string x.v.minus] 81) := ⟨_, rfl⟩
     have HW9 := hid hW9
     have hb9 : Below wm.heap.size wm W9 := by rw [hW9]; exact alloc_below _ _
     have HX9 : Hid (BxM wm.heap.size x W9) := by unfold Hid BxM; rw [hW9]; exact heap_alloc_new _ _
     have HB9 := hid hb9
     obtain ⟨pp, pc9, hpvE, -⟩ := own_shape h6.ax.p
     obtain ⟨fp, fc9, hfvE, -⟩ := own_shape h6.ax.f
     subst hpvE
     subst hfvE
     have hplI := HPLL.out.1
     have hflI := HPLL.out.2
     have hple : PL.length = FL.length := by omega
     obtain ⟨y0, y1, y2, y3, y4, y5, y6, y7, y8⟩ := boxm_cells HX9.out
     obtain ⟨B, hB⟩ : ∃ B, B = (decide (0 ≤ x.part) && decide (x.part < (PL.length : Nat))) := ⟨_, rfl⟩
     have HBB := hid hB
     have HPLE := hid hple
     clear h6 hmr hke hb9 hW9 hplI hflI hB hple
     go_upto_region 17 with (fail)
     rw [← HW9.out]
     clear x0 x1 x2 x3 x4 x5 x6 x7 x8
     go_cut [103] from 87 to 102 (fun v wx => v = .bool B ∧ wx = W9)
     case first =>
      by_cases h0 : 0 ≤ x.part
      ·by_cases h1 : x.part < (PL.length : Nat)
       ·have d0 : decide (0 ≤ x.part) = true := by simpa using h0
        have d1 : decide (x.part < (PL.length : Nat)) = true := by simpa using h1
        have d2 : decide (x.part < (FL.length : Nat)) = true := by rw [← HPLE.out]; exact d1
        go_wp2_with fail
        go_meet
        exact ⟨by rw [HBB.out, d0, d1]; rfl, rfl⟩
       ·have d0 : decide (0 ≤ x.part) = true := by simpa using h0
        have d1 : decide (x.part < (PL.length : Nat)) = false := by simpa using h1
        go_wp2_with fail
        go_meet
        exact ⟨by rw [HBB.out, d0, d1]; rfl, rfl⟩
      ·have d0 : decide (0 ≤ x.part) = false := by simpa using h0
       go_wp2_with fail
       go_meet
       exact ⟨by rw [HBB.out, d0]; rfl, rfl⟩
     case rest =>
      obtain ⟨rfl, hwc⟩ := hcut
      rw [hwc]
      clear hwc
      go_upto_if 103 with (fail)
      go_cut [] from 104 to 120 (fun wx => BxM wm.heap.size (moveM PL FL x) wx ∧ Below wm.heap.size wm wx)
      case first =>
       cases B with
       | false =>
        have hmv : moveM PL FL x = { x with part := -1, piece := 0 } := by
         unfold moveM
         rw [if_neg]
         intro hh
         have := HBB.out
         simp [hh.1, hh.2] at this
        have hx9 := HX9.out
        have z3 := frozen_of_row _ _ 3 _ _ hx9
        have z4 := frozen_of_row _ _ 4 _ _ hx9
        go_wp2_with fail
        go_meet
        rw [hmv]
        exact ⟨mbx_set HX9.out _ _, Below.setCell (p := ⟨wm.heap.size, 4, none⟩) (Below.setCell (p := ⟨wm.heap.size, 3, none⟩) HB9.out (Nat.le_refl _) _) (Nat.le_refl _) _⟩
       | true =>
        have h01 : 0 ≤ x.part ∧ x.part < (PL.length : Nat) := by have := HBB.out; simpa using this.symm
        obtain ⟨q, hq⟩ : ∃ q : Nat, x.part = q := ⟨x.part.toNat, by omega⟩
        have hqP : q < PL.length := by omega
        have hqF : q < FL.length := by have := HPLL.out; omega
        have hmv : moveM PL FL x = { x with part := (PL[q] : Nat), piece := IntKind.i64.wrap (x.piece + (FL[q] : Nat)) } := by
         unfold moveM
         rw [if_pos h01]
         simp [natAt, hq, hqP, hqF]
        rw [show IntKind.i64.wrap (x.piece + (FL[q] : Nat)) = wrap64 (x.piece + (FL[q] : Nat)) from IntWalk.i64_left _] at hmv
        have HMV := hid hmv
        obtain ⟨wd, hwd⟩ : ∃ wd, wd = W9.drew := ⟨_, rfl⟩
        have hbd : Below wm.heap.size wm wd := by rw [hwd]; exact HB9.out.drew
        have hxd : BxM wm.heap.size x wd := by rw [hwd]; exact HX9.out
        have hpo := own_below H6.out.ax.p hbd
        have hfo := own_below H6.out.ax.f hbd
        obtain ⟨pp', pc', ep, hpr⟩ := own_shape hpo
        cases ep
        obtain ⟨fp', fc', ef, hfr⟩ := own_shape hfo
        cases ef
        obtain ⟨b1, o1, hpe, hb1, -⟩ := hpr.at (by simp; omega)
        obtain ⟨b2, o2, hfe, hb2, -⟩ := hfr.at (by simp; omega)
        subst hpe
        subst hfe
        have hc1 := hpr.cell q (by simpa using hqP)
        have hc2 := hfr.cell q (by simpa using hqF)
        simp only [List.getElem_map, natV] at hc1 hc2
        generalize PL[q] = pq at *
        generalize FL[q] = fq at *
        have hn1 : b1 ≠ wm.heap.size := tag_ne (own_tag hpo rfl) (tag_row hxd) (by decide)
        obtain ⟨-, -, -, t3, t4, -, -, -, -⟩ := boxm_cells hxd
        have s3 := frozen_of_row _ _ 3 _ _ hxd
        have s4 := frozen_of_row _ _ 4 _ _ hxd
        rw [hq] at t3
        have HXD := hid hxd
        have HBD := hid hbd
        have r1 : ∀ v, (wd.setCell ⟨wm.heap.size, 4, none⟩ v).cell? ⟨b1, o1 + q, none⟩ = some (.int .i64 (pq : Nat)) := fun v => (World.cell?_of_block (a := ⟨b1, o1 + q, none⟩) (heap_setCell_other _ _ _ _ hn1)).trans hc1
        have hqPI : (q : Int) < PL.length := by omega
        have hqFI : (q : Int) < FL.length := by omega
        clear hmv hpo hfo hpr hfr hc1 hn1 hxd hbd h01 hq y0 y1 y2 y3 y4 y5 y6 y7 y8
        go_upto_region 18 with (fail)
        refine wp_region_held_drew (S := fun _ => True) (by kernel_rfl) trivial (fun hHeld => ?_)
        rw [← hwd] at *
        refine wpAnyH_take (i := 0) (oi := { dst := some 104, op := Op.fieldAddr 81 (Operand.tmp 11) 4, type := 0, pos := "ref.go:184", after := #[], guard := none }) (v := ?pmv0) rfl (by kernel_rfl) (by kernel_rfl) (by kernel_rfl) (fun _ _ _ h => h) (Or.inl ⟨by rfl, ?pmh0⟩) (by assumption) ?pmr0
        case pmh0 => ((intro w hSw; (try dsimp only at hSw); go_simp); try with_reducible rfl)
        try simp only [Act.put, List.setIfInBounds_toArray, List.set_cons_zero, List.set_cons_succ]
        refine wpAnyH_take (i := 2) (oi := { dst := some 106, op := Op.move (Operand.tmp 6), type := 91, pos := "ref.go:184", after := #[], guard := none }) (v := ?pmv2) rfl (by kernel_rfl) (by kernel_rfl) (by kernel_rfl) (fun _ _ _ h => h) (Or.inl ⟨by rfl, ?pmh2⟩) (by assumption) ?pmr2
        case pmh2 => ((intro w hSw; (try dsimp only at hSw); go_simp); try with_reducible rfl)
        try simp only [Act.put, List.setIfInBounds_toArray, List.set_cons_zero, List.set_cons_succ]
        refine wpAnyH_take (i := 3) (oi := { dst := some 107, op := Op.fieldAddr 81 (Operand.tmp 11) 3, type := 0, pos := "ref.go:184", after := #[], guard := none }) (v := ?pmv3) rfl (by kernel_rfl) (by kernel_rfl) (by kernel_rfl) (fun _ _ _ h => h) (Or.inl ⟨by rfl, ?pmh3⟩) (by assumption) ?pmr3
        case pmh3 => ((intro w hSw; (try dsimp only at hSw); go_simp); try with_reducible rfl)
        try simp only [Act.put, List.setIfInBounds_toArray, List.set_cons_zero, List.set_cons_succ]
        refine wpAnyH_ready (rs := [1, 4]) (by kernel_rfl) (by simp) ?_
        refine AllReadyH.cons (o := { dst := some 105, op := Op.load 3 (Operand.tmp 104), type := 3, pos := "ref.go:184", after := #[{ on := 0, ground := Ground.data }], guard := none }) rfl (fun K hK => ?_) ?_
        ·go_simp; refine hK.out _ _ trivial (fun hHeld => ?_)
         clear hK K
         try simp only [Act.put, List.setIfInBounds_toArray, List.set_cons_zero, List.set_cons_succ]
         refine wpAnyH_ready (rs := [4]) (by kernel_rfl) (by simp) ?_
         refine AllReadyH.cons (o := { dst := some 108, op := Op.load 3 (Operand.tmp 107), type := 3, pos := "ref.go:184", after := #[{ on := 3, ground := Ground.data }], guard := none }) rfl (fun K hK => ?_) AllReadyH.nil
         go_simp; refine hK.out _ _ trivial (fun hHeld => ?_)
         clear hK K
         try simp only [Act.put, List.setIfInBounds_toArray, List.set_cons_zero, List.set_cons_succ]
         refine wpAnyH_take (i := 5) (oi := { dst := some 109, op := Op.indexAddr 91 (Operand.tmp 106) (Operand.tmp 108), type := 0, pos := "ref.go:184", after := #[{ on := 2, ground := Ground.data }, { on := 4, ground := Ground.data }], guard := none }) (v := ?pmav5) rfl (by kernel_rfl) (by kernel_rfl) (by kernel_rfl) (fun _ _ _ h => h) (Or.inl ⟨by rfl, ?pmah5⟩) (by assumption) ?pmar5
         case pmah5 => ((intro w hSw; (try dsimp only at hSw); go_simp); try with_reducible rfl)
         try simp only [Act.put, List.setIfInBounds_toArray, List.set_cons_zero, List.set_cons_succ]
         refine wpAnyH_ready (rs := [6]) (by kernel_rfl) (by simp) ?_
         refine AllReadyH.cons (o := { dst := some 110, op := Op.load 3 (Operand.tmp 109), type := 3, pos := "ref.go:184", after := #[{ on := 5, ground := Ground.data }], guard := none }) rfl (fun K hK => ?_) AllReadyH.nil
         go_simp; refine hK.out _ _ trivial (fun hHeld => ?_)
         clear hK K
         try simp only [Act.put, List.setIfInBounds_toArray, List.set_cons_zero, List.set_cons_succ]
         refine wpAnyH_take (i := 7) (oi := { dst := some 111, op := Op.binOp BinOp.add 3 (Operand.tmp 105) (Operand.tmp 110) 3, type := 3, pos := "ref.go:184", after := #[{ on := 1, ground := Ground.data }, { on := 6, ground := Ground.data }], guard := none }) (v := ?pmav7) rfl (by kernel_rfl) (by kernel_rfl) (by kernel_rfl) (fun _ _ _ h => h) (Or.inl ⟨by rfl, ?pmah7⟩) (by assumption) ?pmar7
         case pmah7 => ((intro w hSw; (try dsimp only at hSw); go_simp); try with_reducible rfl)
         try simp only [Act.put, List.setIfInBounds_toArray, List.set_cons_zero, List.set_cons_succ]
         refine wpAnyH_take (i := 8) (oi := { dst := some 112, op := Op.fieldAddr 81 (Operand.tmp 11) 4, type := 0, pos := "ref.go:184", after := #[{ on := 0, ground := Ground.phase }, { on := 1, ground := Ground.phase }, { on := 2, ground := Ground.phase }, { on := 3, ground := Ground.phase }, { on := 4, ground := Ground.phase }, { on := 5, ground := Ground.phase }, { on := 6, ground := Ground.phase }, { on := 7, ground := Ground.phase }], guard := none }) (v := ?pmav8) rfl (by kernel_rfl) (by kernel_rfl) (by kernel_rfl) (fun _ _ _ h => h) (Or.inl ⟨by rfl, ?pmah8⟩) (by assumption) ?pmar8
         case pmah8 => ((intro w hSw; (try dsimp only at hSw); go_simp); try with_reducible rfl)
         try simp only [Act.put, List.setIfInBounds_toArray, List.set_cons_zero, List.set_cons_succ]
         refine wpAnyH_ready (rs := [9]) (by kernel_rfl) (by simp) ?_
         refine AllReadyH.cons (o := { dst := none, op := Op.store 3 (Operand.tmp 112) (Operand.tmp 111), type := 0, pos := "ref.go:184", after := #[{ on := 8, ground := Ground.data }, { on := 7, ground := Ground.data }, { on := 0, ground := Ground.phase }, { on := 1, ground := Ground.phase }, { on := 2, ground := Ground.phase }, { on := 3, ground := Ground.phase }, { on := 4, ground := Ground.phase }, { on := 5, ground := Ground.phase }, { on := 6, ground := Ground.phase }, { on := 7, ground := Ground.phase }], guard := none }) rfl (fun K hK => ?_) AllReadyH.nil
         go_simp; refine hK.out _ _ trivial (fun hHeld => ?_)
         clear hK K
         try simp only [Act.put, List.setIfInBounds_toArray, List.set_cons_zero, List.set_cons_succ]
         refine wpAnyH_done (by kernel_rfl) ?_ _
         go_wp2_with fail
         go_meet
         rw [HMV.out]
         exact ⟨mbx_setR HXD.out _ _, Below.setCell (p := ⟨wm.heap.size, 3, none⟩) (Below.setCell (p := ⟨wm.heap.size, 4, none⟩) HBD.out (Nat.le_refl _) _) (Nat.le_refl _) _⟩
        refine AllReadyH.cons (o := { dst := some 108, op := Op.load 3 (Operand.tmp 107), type := 3, pos := "ref.go:184", after := #[{ on := 3, ground := Ground.data }], guard := none }) rfl (fun K hK => ?_) AllReadyH.nil
        go_simp; refine hK.out _ _ trivial (fun hHeld => ?_)
        clear hK K
        try simp only [Act.put, List.setIfInBounds_toArray, List.set_cons_zero, List.set_cons_succ]
        refine wpAnyH_take (i := 5) (oi := { dst := some 109, op := Op.indexAddr 91 (Operand.tmp 106) (Operand.tmp 108), type := 0, pos := "ref.go:184", after := #[{ on := 2, ground := Ground.data }, { on := 4, ground := Ground.data }], guard := none }) (v := ?pmbv5) rfl (by kernel_rfl) (by kernel_rfl) (by kernel_rfl) (fun _ _ _ h => h) (Or.inl ⟨by rfl, ?pmbh5⟩) (by assumption) ?pmbr5
        case pmbh5 => ((intro w hSw; (try dsimp only at hSw); go_simp); try with_reducible rfl)
        try simp only [Act.put, List.setIfInBounds_toArray, List.set_cons_zero, List.set_cons_succ]
        refine wpAnyH_ready (rs := [1, 6]) (by kernel_rfl) (by simp) ?_
        refine AllReadyH.cons (o := { dst := some 105, op := Op.load 3 (Operand.tmp 104), type := 3, pos := "ref.go:184", after := #[{ on := 0, ground := Ground.data }], guard := none }) rfl (fun K hK => ?_) ?_
        ·go_simp; refine hK.out _ _ trivial (fun hHeld => ?_)
         clear hK K
         try simp only [Act.put, List.setIfInBounds_toArray, List.set_cons_zero, List.set_cons_succ]
         refine wpAnyH_ready (rs := [6]) (by kernel_rfl) (by simp) ?_
         refine AllReadyH.cons (o := { dst := some 110, op := Op.load 3 (Operand.tmp 109), type := 3, pos := "ref.go:184", after := #[{ on := 5, ground := Ground.data }], guard := none }) rfl (fun K hK => ?_) AllReadyH.nil
         go_simp; refine hK.out _ _ trivial (fun hHeld => ?_)
         clear hK K
         try simp only [Act.put, List.setIfInBounds_toArray, List.set_cons_zero, List.set_cons_succ]
         refine wpAnyH_take (i := 7) (oi := { dst := some 111, op := Op.binOp BinOp.add 3 (Operand.tmp 105) (Operand.tmp 110) 3, type := 3, pos := "ref.go:184", after := #[{ on := 1, ground := Ground.data }, { on := 6, ground := Ground.data }], guard := none }) (v := ?pmbav7) rfl (by kernel_rfl) (by kernel_rfl) (by kernel_rfl) (fun _ _ _ h => h) (Or.inl ⟨by rfl, ?pmbah7⟩) (by assumption) ?pmbar7
         case pmbah7 => ((intro w hSw; (try dsimp only at hSw); go_simp); try with_reducible rfl)
         try simp only [Act.put, List.setIfInBounds_toArray, List.set_cons_zero, List.set_cons_succ]
         refine wpAnyH_take (i := 8) (oi := { dst := some 112, op := Op.fieldAddr 81 (Operand.tmp 11) 4, type := 0, pos := "ref.go:184", after := #[{ on := 0, ground := Ground.phase }, { on := 1, ground := Ground.phase }, { on := 2, ground := Ground.phase }, { on := 3, ground := Ground.phase }, { on := 4, ground := Ground.phase }, { on := 5, ground := Ground.phase }, { on := 6, ground := Ground.phase }, { on := 7, ground := Ground.phase }], guard := none }) (v := ?pmbav8) rfl (by kernel_rfl) (by kernel_rfl) (by kernel_rfl) (fun _ _ _ h => h) (Or.inl ⟨by rfl, ?pmbah8⟩) (by assumption) ?pmbar8
         case pmbah8 => ((intro w hSw; (try dsimp only at hSw); go_simp); try with_reducible rfl)
         try simp only [Act.put, List.setIfInBounds_toArray, List.set_cons_zero, List.set_cons_succ]
         refine wpAnyH_ready (rs := [9]) (by kernel_rfl) (by simp) ?_
         refine AllReadyH.cons (o := { dst := none, op := Op.store 3 (Operand.tmp 112) (Operand.tmp 111), type := 0, pos := "ref.go:184", after := #[{ on := 8, ground := Ground.data }, { on := 7, ground := Ground.data }, { on := 0, ground := Ground.phase }, { on := 1, ground := Ground.phase }, { on := 2, ground := Ground.phase }, { on := 3, ground := Ground.phase }, { on := 4, ground := Ground.phase }, { on := 5, ground := Ground.phase }, { on := 6, ground := Ground.phase }, { on := 7, ground := Ground.phase }], guard := none }) rfl (fun K hK => ?_) AllReadyH.nil
         go_simp; refine hK.out _ _ trivial (fun hHeld => ?_)
         clear hK K
         try simp only [Act.put, List.setIfInBounds_toArray, List.set_cons_zero, List.set_cons_succ]
         refine wpAnyH_done (by kernel_rfl) ?_ _
         go_wp2_with fail
         go_meet
         rw [HMV.out]
         exact ⟨mbx_setR HXD.out _ _, Below.setCell (p := ⟨wm.heap.size, 3, none⟩) (Below.setCell (p := ⟨wm.heap.size, 4, none⟩) HBD.out (Nat.le_refl _) _) (Nat.le_refl _) _⟩
        refine AllReadyH.cons (o := { dst := some 110, op := Op.load 3 (Operand.tmp 109), type := 3, pos := "ref.go:184", after := #[{ on := 5, ground := Ground.data }], guard := none }) rfl (fun K hK => ?_) AllReadyH.nil
        go_simp; refine hK.out _ _ trivial (fun hHeld => ?_)
        clear hK K
        try simp only [Act.put, List.setIfInBounds_toArray, List.set_cons_zero, List.set_cons_succ]
        refine wpAnyH_ready (rs := [1]) (by kernel_rfl) (by simp) ?_
        refine AllReadyH.cons (o := { dst := some 105, op := Op.load 3 (Operand.tmp 104), type := 3, pos := "ref.go:184", after := #[{ on := 0, ground := Ground.data }], guard := none }) rfl (fun K hK => ?_) AllReadyH.nil
        go_simp; refine hK.out _ _ trivial (fun hHeld => ?_)
        clear hK K
        try simp only [Act.put, List.setIfInBounds_toArray, List.set_cons_zero, List.set_cons_succ]
        refine wpAnyH_take (i := 7) (oi := { dst := some 111, op := Op.binOp BinOp.add 3 (Operand.tmp 105) (Operand.tmp 110) 3, type := 3, pos := "ref.go:184", after := #[{ on := 1, ground := Ground.data }, { on := 6, ground := Ground.data }], guard := none }) (v := ?pmbbv7) rfl (by kernel_rfl) (by kernel_rfl) (by kernel_rfl) (fun _ _ _ h => h) (Or.inl ⟨by rfl, ?pmbbh7⟩) (by assumption) ?pmbbr7
        case pmbbh7 => ((intro w hSw; (try dsimp only at hSw); go_simp); try with_reducible rfl)
        try simp only [Act.put, List.setIfInBounds_toArray, List.set_cons_zero, List.set_cons_succ]
        refine wpAnyH_take (i := 8) (oi := { dst := some 112, op := Op.fieldAddr 81 (Operand.tmp 11) 4, type := 0, pos := "ref.go:184", after := #[{ on := 0, ground := Ground.phase }, { on := 1, ground := Ground.phase }, { on := 2, ground := Ground.phase }, { on := 3, ground := Ground.phase }, { on := 4, ground := Ground.phase }, { on := 5, ground := Ground.phase }, { on := 6, ground := Ground.phase }, { on := 7, ground := Ground.phase }], guard := none }) (v := ?pmbbv8) rfl (by kernel_rfl) (by kernel_rfl) (by kernel_rfl) (fun _ _ _ h => h) (Or.inl ⟨by rfl, ?pmbbh8⟩) (by assumption) ?pmbbr8
        case pmbbh8 => ((intro w hSw; (try dsimp only at hSw); go_simp); try with_reducible rfl)
        try simp only [Act.put, List.setIfInBounds_toArray, List.set_cons_zero, List.set_cons_succ]
        refine wpAnyH_ready (rs := [9]) (by kernel_rfl) (by simp) ?_
        refine AllReadyH.cons (o := { dst := none, op := Op.store 3 (Operand.tmp 112) (Operand.tmp 111), type := 0, pos := "ref.go:184", after := #[{ on := 8, ground := Ground.data }, { on := 7, ground := Ground.data }, { on := 0, ground := Ground.phase }, { on := 1, ground := Ground.phase }, { on := 2, ground := Ground.phase }, { on := 3, ground := Ground.phase }, { on := 4, ground := Ground.phase }, { on := 5, ground := Ground.phase }, { on := 6, ground := Ground.phase }, { on := 7, ground := Ground.phase }], guard := none }) rfl (fun K hK => ?_) AllReadyH.nil
        go_simp; refine hK.out _ _ trivial (fun hHeld => ?_)
        clear hK K
        try simp only [Act.put, List.setIfInBounds_toArray, List.set_cons_zero, List.set_cons_succ]
        refine wpAnyH_done (by kernel_rfl) ?_ _
        go_wp2_with fail
        go_meet
        rw [HMV.out]
        exact ⟨mbx_setR HXD.out _ _, Below.setCell (p := ⟨wm.heap.size, 3, none⟩) (Below.setCell (p := ⟨wm.heap.size, 4, none⟩) HBD.out (Nat.le_refl _) _) (Nat.le_refl _) _⟩
      case rest =>
       rename World => wz
       obtain ⟨hxz, hbz⟩ := hcut
       have hjz := H6.out.ri.below hbz
       have hoz := hjz.jb.head
       obtain ⟨mp6, mc6, hmvE, -⟩ := own_shape hjz.jb.is.marks
       rw [hmvE] at hoz
       have o1 := cell_of_row _ _ 1 _ _ _ hoz
       simp only [List.getElem?_toArray, List.getElem?_cons_zero, List.getElem?_cons_succ] at o1
       have hml6 : X6.ms.length ≤ 2000000 := by have := H6.out.sm.ms; omega
       have HMO : Hid (wz.ownsRow W.heap.size 81 9 (.slice mp6 X6.ms.length mc6) X6.ms.length (X6.ms.flatMap Mk.cells)) := by have := hjz.jb.is.marks; rw [hmvE] at this; exact this
       obtain ⟨x', hx'⟩ : ∃ x', x' = moveM PL FL x := ⟨_, rfl⟩
       rw [← hx'] at hxz
       have HFIN : Hid (∀ (o : Obj) (w5 : World) (v5 : Value), w5.ownsRow W.heap.size 81 9 v5 (X6.ms.length + 1) (X6.ms.flatMap Mk.cells ++ x'.cells) → (wz.alloc o).grownBy w5 (Value.slice mp6 X6.ms.length mc6).ownBlock →
         (∃ X5, MJR W w0 X1 PL FL u.marks.l n2 u (m + 1) (.slice pp PL.length pc9) (.slice fp FL.length fc9) X5 (w5.setCell ⟨w0.heap.size, 1, none⟩ v5)) ∧ w5.heap[w0.heap.size]? = some (.cells #[X6.pv, .slice mp6 X6.ms.length mc6, X6.gv] 32 (0, 0))) := fun o w5 v5 ho hg => by
        have := H6.out.fin hbz HTM.out hx' o w5 v5 ho (by rw [hmvE]; exact hg)
        rw [hmvE] at this
        exact this
       obtain ⟨y0, y1, y2, y3, y4, y5, y6, y7, y8⟩ := boxm_cells hxz
       have hobl : w0.heap.size < wz.heap.size := hjz.jb.lt
       have hbxl : wm.heap.size < wz.heap.size := (Array.getElem?_eq_some_iff.1 hxz).1
       have hbwz : W.heap.size ≤ wz.heap.size := hjz.jb.hz
       have HHX := hid hx'
       clear hxz hbz hjz hoz hmvE hx' HX9
       go_wp2_with ((with_reducible show wpList _ _ _ (⟨some 125, _, _, _, _, _⟩ :: _) _ _); go_loud (refine wpList_app EMark rfl _ _ rfl W.heap.size (.slice mp6 X6.ms.length mc6) X6.ms.length (X6.ms.flatMap Mk.cells) rfl (HMO.out.alloc _) _ 1 1 x'.cells rfl rfl (by intro h; cases h) (row_blkAt (heap_alloc_new _ _)) (mk_ones _) (by unfold maxLen; omega) (by omega) (by simp; omega) ?_); go_loud (intro v5 w5 ho5 hg5 hs5; obtain ⟨p5, c5, rfl, -⟩ := own_shape ho5; obtain ⟨f1, f2⟩ := HFIN.out _ w5 _ ho5 hg5; have o8 := cell_of_row _ _ 1 _ _ _ f2; have o9 := frozen_of_row _ _ 1 _ _ f2; simp only [List.getElem?_toArray, List.getElem?_cons_zero, List.getElem?_cons_succ] at o8; have HF := hid f1; clear f1 f2 ho5 hg5 hs5))
       obtain ⟨X5, h5⟩ := HF.out
       exact ⟨⟨m + 1, by omega, by go_num, X5, h5⟩, by simp [intOf]; omega⟩
    ·have hme : m = NMK := by omega
     subst hme
     have v2 := cell_of_row _ _ 2 _ _ _ h6.ri.mb
     simp only [UnR.cells, Sl.val, List.getElem?_toArray, List.getElem?_cons_zero, List.getElem?_cons_succ] at v2
     have hj6 := h6.ri
     obtain ⟨gp6, gc6, hgvE, -⟩ := own_shape hj6.jb.is.globals
     have hoz := hj6.jb.head
     rw [hgvE] at hoz
     have o2 := cell_of_row _ _ 2 _ _ _ hoz
     simp only [List.getElem?_toArray, List.getElem?_cons_zero, List.getElem?_cons_succ] at o2
     have HGO : Hid (wm.ownsRow W.heap.size 90 3 (.slice gp6 X6.gs.length gc6) X6.gs.length (X6.gs.flatMap Td.cells)) := by have := hj6.jb.is.globals; rw [hgvE] at this; exact this
     have hgl6 : X6.gs.length + u.globals.l.length ≤ 4000000 := by
      have h1 := h6.sm.gs; have h2 := HC.out
      have h4 : u.cost = ptCost u.parts.l + u.marks.l.length + u.globals.l.length := rfl
      omega
     have HGR := hid (HUI.out.gr.below hj6.b)
     have HGN := hid HUI.out.gn
     have hbwm : W.heap.size ≤ wm.heap.size := hj6.jb.hz
     have HFIN : Hid (∀ (w5 : World) (v5 : Value), w5.ownsRow W.heap.size 90 3 v5 (X6.gs.length + u.globals.l.length) (X6.gs.flatMap Td.cells ++ u.globals.l.flatMap Td.cells) → wm.grownBy w5 (Value.slice gp6 X6.gs.length gc6).ownBlock →
       (RI W w0 u { X6 with gv := v5, gs := X6.gs ++ u.globals.l } (w5.setCell ⟨w0.heap.size, 2, none⟩ v5)) ∧ w5.heap[w0.heap.size]? = some (.cells #[X6.pv, X6.mv, .slice gp6 X6.gs.length gc6] 32 (0, 0))) := fun w5 v5 ho hg => by
      rw [← hgvE] at hg
      obtain ⟨hj, ht⟩ := hj6.jb.addTolds u.globals.l ho hg
      refine ⟨hj6.step hj ht, ?_⟩
      have := hj6.jb.app hg (fun g e => own_tag hj6.jb.is.globals e) (by decide)
      rw [hgvE] at this
      exact this
     have HPF : Hid ((⟨X6.ps.map PtR.pl, X6.ms, X6.gs ++ u.globals.l, X6.fs⟩ : FP) = X.pl.joinUnit u.pl) := by
      unfold Hid
      have hq := HF1.out
      have e1 : (joinParts (X.pl, [], []) u.pl.ps).1 = X1.pl := by show (joinParts (X.pl, [], []) (u.parts.l.map PtR.pl)).1 = _; rw [← hq]
      have e2 : (joinParts (X.pl, [], []) u.pl.ps).2.1 = PL := by show (joinParts (X.pl, [], []) (u.parts.l.map PtR.pl)).2.1 = _; rw [← hq]
      have e3 : (joinParts (X.pl, [], []) u.pl.ps).2.2 = FL := by show (joinParts (X.pl, [], []) (u.parts.l.map PtR.pl)).2.2 = _; rw [← hq]
      obtain ⟨m1, m2, m3, -, -⟩ := joinParts_ms u.pl.ps (X.pl, [], [])
      rw [e1] at m1 m2 m3
      unfold FP.joinUnit
      rw [e1, e2, e3, h6.ps, h6.ms, h6.gs, h6.ri.jb.fs, List.take_of_length_le (by rw [HNMK.out]; exact Nat.le_refl _)]
      have m1 : X1.ms = X.ms := m1
      have m2 : X1.gs = X.gs := m2
      have m3 : X1.fs = X.fs := m3
      rw [m1, m2]
      show (⟨X1.ps.map PtR.pl, _, _, _⟩ : FP) = ⟨X1.ps.map PtR.pl, _, _, X1.fs⟩
      rw [m3, HFS.out]
      rfl
     have HSF : Hid (∀ v5, Sm { X6 with gv := v5, gs := X6.gs ++ u.globals.l } (n + u.cost)) := fun v5 => by
      have q := h6.sm
      have h4 : u.cost = ptCost u.parts.l + u.marks.l.length + u.globals.l.length := rfl
      have h5 := HN2.out; have h7 := HNMK.out
      exact ⟨by have := q.ps; show X6.ps.length ≤ _; omega, by have := q.ms; show X6.ms.length ≤ _; omega, by have := q.gs; show (X6.gs ++ _).length ≤ _; rw [List.length_append]; omega, by have := q.fs; show X6.fs.length ≤ _; omega, fun y hy => by have := q.pcs y hy; omega⟩
     clear h6 hj6 hgvE hoz
     go_upto_region 24 with ((with_reducible show wpList _ _ _ (⟨some 131, _, _, _, _, _⟩ :: _) _ _); go_loud (refine wpList_app ETold rfl _ _ rfl W.heap.size (.slice gp6 X6.gs.length gc6) X6.gs.length (X6.gs.flatMap Td.cells) rfl HGO.out _ _ _ (u.globals.l.flatMap Td.cells) rfl (flat_len Td.cells 3 (fun _ => rfl) _ |>.trans (Nat.mul_comm _ _)) HGN.out HGR.out (fun v hv => by obtain ⟨t, -, h⟩ := List.mem_flatMap.1 hv; exact td_ones t v h) (by unfold maxLen; omega) (by omega) hbwm ?_); go_loud (intro v5 w5 ho5 hg5 hs5; obtain ⟨p5, c5, rfl, -⟩ := own_shape ho5; obtain ⟨f1, f2⟩ := HFIN.out w5 _ ho5 hg5; have o8 := cell_of_row _ _ 2 _ _ _ f2; have o9 := frozen_of_row _ _ 2 _ _ f2; simp only [List.getElem?_toArray, List.getElem?_cons_zero, List.getElem?_cons_succ] at o8; have HF := hid f1; clear f1 f2 ho5 hg5 hs5))
     obtain ⟨w9, hw9⟩ : ∃ w9, w9 = w5.setCell ⟨w0.heap.size, 2, none⟩ (.slice p5 (X6.gs.length + u.globals.l.length) c5) := ⟨_, rfl⟩
     rw [← hw9] at HF
     rw [← hw9]
     clear hw9 o8 o9 o2 v1 v2
     have hri := HF.out
     obtain ⟨z0, a0, hpv, -⟩ := own_shape hri.jb.is.parts
     obtain ⟨z1, a1, hmv, -⟩ := own_shape hri.jb.is.marks
     have hoz := hri.jb.head
     rw [hpv, hmv] at hoz
     have o0 := cell_of_row _ _ 0 _ _ _ hoz
     have o1 := cell_of_row _ _ 1 _ _ _ hoz
     have o2 := cell_of_row _ _ 2 _ _ _ hoz
     simp only [List.getElem?_toArray, List.getElem?_cons_zero, List.getElem?_cons_succ] at o0 o1 o2
     have r0 := cell_of_row _ _ 0 _ _ _ hri.rb
     have r1 := cell_of_row _ _ 1 _ _ _ hri.rb
     have r2 := cell_of_row _ _ 2 _ _ _ hri.rb
     have g0 := frozen_of_row _ _ 0 _ _ hri.rb
     have g1 := frozen_of_row _ _ 1 _ _ hri.rb
     have g2 := frozen_of_row _ _ 2 _ _ hri.rb
     simp only [List.getElem?_toArray, List.getElem?_cons_zero, List.getElem?_cons_succ] at r0 r1 r2
     have HV := hid (And.intro hpv hmv)
     clear hri hpv hmv hoz HFIN
     go_wp2_with fail
     refine bodyPost_ret (v := .agg #[.slice z0 X6.ps.length a0, .slice z1 X6.ms.length a1, .slice p5 (X6.gs.length + u.globals.l.length) c5]) (by simp [results, Try.results32, go_sem, r0, r1, r2]) rfl ?_
     obtain ⟨wf, hwf⟩ : ∃ wf, wf = ((w9.setCell ⟨w0.heap.size + 1 + 1, 0, none⟩ (.slice z0 X6.ps.length a0)).setCell ⟨w0.heap.size + 1 + 1, 1, none⟩ (.slice z1 X6.ms.length a1)).setCell ⟨w0.heap.size + 1 + 1, 2, none⟩ (.slice p5 (X6.gs.length + u.globals.l.length) c5) := ⟨_, rfl⟩
     rw [← hwf]
     have hko : ∀ k, k ≠ w0.heap.size + 1 + 1 → wf.heap[k]? = w9.heap[k]? := fun k hk => by
      rw [hwf]; exact (heap_setCell_other _ _ _ _ hk).trans ((heap_setCell_other _ _ _ _ hk).trans (heap_setCell_other _ _ _ _ hk))
     have hg9 : w9.grownBy wf (some (w0.heap.size + 1 + 1)) := ⟨by rw [hwf]; rfl, by rw [hwf]; rfl, by rw [hwf]; rfl, by rw [hwf]; simp, fun k _ hk => hko k (fun e => hk (by rw [e]))⟩
     have h := HF.out
     have hgt : ∀ g, some (w0.heap.size + 1 + 1) = some g → tagAt w9 g = some (32 + 1) ∧ W.heap.size ≤ g := fun g e => by cases e; exact ⟨tag_row h.rb, by omega⟩
     have hl : Lies W.heap.size (fun x => own3 x ∨ isOB x) w9 wf := Lies.grown (x := 32 + 1) hg9 hgt (by unfold own3 isOB; decide) h.jb.hz
     have e0 := HV.out.1
     have e1 := HV.out.2
     refine ⟨{ X6 with gv := .slice p5 (X6.gs.length + u.globals.l.length) c5, gs := X6.gs ++ u.globals.l }, by rw [e0, e1], h.jb.is.lies hl, HPF.out, HSF.out _, h.jb.fv, h.jb.fs, h.b.grown hg9 h.b.size (fun g e => (hgt g e).2), ?_⟩
     exact ⟨h.tr.t.trans (TrnP.grown hg9 hgt (fun hn => hn) h.jb.hz), fun b hb ht => (hko b (by have := tag_lt ht; omega)).trans (h.tr.u b hb ht)⟩
end Go.Proofs.Ythlingholhjcnaa
