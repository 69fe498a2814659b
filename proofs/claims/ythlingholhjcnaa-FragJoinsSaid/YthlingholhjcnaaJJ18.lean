/-
 The document's Join: the walk.
 Units put together in groups are all put together: the plain law.
 Units put together in groups are all put together: what is joined is in order; the law.
 The law's begun answers true.
 FragOnes: the law's walk.
 The law's few: what it tells.
 Join as its callers see it.
-/
import Derived.Test.YthlingholhjcnaaJJ17
import Derived.Test.YthlingholhjcnaaJJ10
import Derived.Test.YthlingholhjcnaaJJ9
import Derived.Test.YthlingholhjcnaaJJ11
namespace Go.Proofs.Ythlingholhjcnaa
open Go.RowKit
variable {W w w' : World} {X : FV}
structure RJ (W : World) (X : FV) (w : World) : Prop where
 jb : JB W.heap.size (W.heap.size + 1) X w
 res : w.heap[W.heap.size]? = some (.cells #[.slice none 0 0, .slice none 0 0, .slice none 0 0] 32 (0, 0))
 b : Below W.heap.size W w
theorem RJ.below (h : RJ W X w) (hb : Below w.heap.size w w') : RJ W X w' := ⟨h.jb.below hb, (hb.block _ (by have := h.jb.lt; omega)).trans h.res, h.b.trans (hb.mono h.jb.hz)⟩
theorem RJ.start (W : World) : ∃ W2, W2 = (W.alloc (.cells #[.slice none 0 0, .slice none 0 0, .slice none 0 0] 32)).alloc (.cells #[.slice none 0 0, .slice none 0 0, .slice none 0 0] 32) ∧ RJ W nil0 W2 := by
 refine ⟨_, rfl, ⟨?_, FIs.nil _ _, Nat.le_succ _, rfl, rfl⟩, ?_, ?_⟩
 ·exact heap_newAt _ _ _ (by simp)
 ·exact (Below.heap_alloc _ _ _ (by simp)).trans (heap_alloc_new _ _)
 ·exact ((Below.refl _ _).alloc (Nat.le_refl _) _).alloc (by simp) _
theorem RJ.fin {X' : FV} {v0 v1 v2 : Value} (h : RJ W X w) (hF : FIs w' W.heap.size X') (hfv : X'.fv = .slice none 0 0) (hfs : X'.fs = []) (hb : Below W.heap.size W w') (ht : TrJ noP W.heap.size w.heap.size w w') (e0 : X'.pv = v0) (e1 : X'.mv = v1) (e2 : X'.gv = v2) :
  w'.heap[W.heap.size + 1]? = some (.cells #[X.pv, X.mv, X.gv] 32 (0, 0)) ∧ RJ W X' (((w'.setCell ⟨W.heap.size + 1, 0, none⟩ v0).setCell ⟨W.heap.size + 1, 1, none⟩ v1).setCell ⟨W.heap.size + 1, 2, none⟩ v2) := by
 subst e0; subst e1; subst e2
 have hlt := h.jb.lt
 have hx : w'.heap[W.heap.size + 1]? = some (.cells #[X.pv, X.mv, X.gv] 32 (0, 0)) := ht.box (by omega) h.jb.head rfl
 have hr : w'.heap[W.heap.size]? = some (.cells #[.slice none 0 0, .slice none 0 0, .slice none 0 0] 32 (0, 0)) := ht.box (by omega) h.res rfl
 obtain ⟨wf, hwf⟩ : ∃ wf, wf = ((w'.setCell ⟨W.heap.size + 1, 0, none⟩ X'.pv).setCell ⟨W.heap.size + 1, 1, none⟩ X'.mv).setCell ⟨W.heap.size + 1, 2, none⟩ X'.gv := ⟨_, rfl⟩
 have hk : ∀ k, k ≠ W.heap.size + 1 → wf.heap[k]? = w'.heap[k]? := fun k hk => by
  rw [hwf]; exact (heap_setCell_other _ _ _ _ hk).trans ((heap_setCell_other _ _ _ _ hk).trans (heap_setCell_other _ _ _ _ hk))
 have hg : w'.grownBy wf (some (W.heap.size + 1)) := ⟨by rw [hwf]; rfl, by rw [hwf]; rfl, by rw [hwf]; rfl, by rw [hwf]; simp, fun k _ hne => hk k (fun e => hne (by rw [e]))⟩
 have hgt : ∀ g, some (W.heap.size + 1) = some g → tagAt w' g = some (32 + 1) ∧ W.heap.size ≤ g := fun g e => by cases e; exact ⟨tag_row hx, by omega⟩
 have hl : Lies W.heap.size (fun x => own3 x ∨ isOB x) w' wf := Lies.grown (x := 32 + 1) hg hgt (by unfold own3 isOB; decide) hb.size
 rw [← hwf]
 refine ⟨hx, ⟨?_, hF.lies hl, Nat.le_succ _, hfv, hfs⟩, (hk _ (by omega)).trans hr, hb.grown hg hb.size (fun g e => (hgt g e).2)⟩
 rw [hwf]
 have h1 : (w'.setCell ⟨W.heap.size + 1, 0, none⟩ X'.pv).heap[W.heap.size + 1]? = some (.cells #[X'.pv, X.mv, X.gv] 32 (0, 0)) := heap_setCell_same _ _ 0 _ _ _ hx
 have h2 : ((w'.setCell ⟨W.heap.size + 1, 0, none⟩ X'.pv).setCell ⟨W.heap.size + 1, 1, none⟩ X'.mv).heap[W.heap.size + 1]? = some (.cells #[X'.pv, X'.mv, X.gv] 32 (0, 0)) := heap_setCell_same _ _ 1 _ _ _ h1
 exact heap_setCell_same _ _ 2 _ _ _ h2
set_option maxRecDepth 40000 in
set_option maxHeartbeats 4000000 in
theorem rjoin_any (p : Option Addr) (c : Nat) (l : List UnR) (W : World) (hrow : Row W p (l.flatMap UnR.cells)) (hin : ∀ u ∈ l, UnIn W u) (hlen : l.length ≤ 1000000) (hcost : unCost l ≤ 2000000) :
  Calls Try.prog 19 #[.slice p l.length c] W (JoinT W (joinP (l.map UnR.pl)) (unCost l)) := by
 obtain ⟨W2, hW2, h2⟩ := RJ.start W
 have HW2 := hid hW2
 have H2 := hid h2
 have HROW := hid hrow
 have HIN := hid hin
 have HCOST := hid hcost
 obtain ⟨N, hN⟩ : ∃ N, N = l.length := ⟨_, rfl⟩
 have HN := hid hN
 rw [← hN] at hlen ⊢
 clear h2 hrow hin hcost hN
 obtain ⟨o0, o1, o2⟩ : W2.cell? ⟨W.heap.size + 1, 0, none⟩ = some (.slice none 0 0) ∧ W2.cell? ⟨W.heap.size + 1, 1, none⟩ = some (.slice none 0 0) ∧ W2.cell? ⟨W.heap.size + 1, 2, none⟩ = some (.slice none 0 0) := ⟨cell_of_row _ _ 0 _ _ _ H2.out.jb.head, cell_of_row _ _ 1 _ _ _ H2.out.jb.head, cell_of_row _ _ 2 _ _ _ H2.out.jb.head⟩
 clear hW2
 go_enter Try.func19, Try.ntmps19
 go_upto_region 2 with (fail)
 rw [← HW2.out]
 clear o0 o1 o2
 go_wp2_with (fail)
 go_loopw [4] (fun i wr => ∃ (k : Nat), k ≤ N ∧ i = .int .i64 k ∧ ∃ (X : FV), RJ W X wr ∧ X.pl = joinP ((l.take k).map UnR.pl) ∧ Sm X (unCost (l.take k))) (fun i _ => N - (intOf i).toNat)
 case atStart => exact ⟨0, Nat.zero_le _, rfl, nil0, H2.out, rfl, ⟨Nat.le_refl _, Nat.le_refl _, Nat.le_refl _, Nat.le_refl _, fun y hy => (by cases hy)⟩⟩
 case round =>
  rename World => wr
  obtain ⟨k, hk, rfl, X, hj, hp, hs⟩ := hrel
  have HJ := hid hj
  have HP := hid hp
  have HS := hid hs
  clear H2
  by_cases hlt : k < N
  ·have hkI : (k : Int) < N := by omega
   have hkl : k < l.length := by rw [← HN.out]; exact hlt
   obtain ⟨wd, hwd⟩ : ∃ wd, wd = wr.drew := ⟨_, rfl⟩
   have hbd : Below wr.heap.size wr wd := by rw [hwd]; exact (Below.refl _ _).drew
   have hjd := hj.below hbd
   have hrow := HROW.out.below hjd.b
   obtain ⟨b, o, rfl, hbl, -⟩ := hrow.at (by rw [flat_len UnR.cells 3 (fun _ => rfl)]; omega)
   obtain ⟨u0, u1, u2⟩ := unr_cells hrow k hkl
   have HUI := hid (HIN.out _ (List.getElem_mem hkl))
   have HCO := hid (sum_take UnR.cost l k hkl)
   have HCL := hid (sum_le UnR.cost l (k + 1))
   have HST : Hid (joinP ((l.take (k + 1)).map UnR.pl) = (joinP ((l.take k).map UnR.pl)).joinUnit l[k].pl) := by
    unfold Hid joinP
    rw [List.take_add_one, List.getElem?_eq_getElem hkl, Option.toList_some, List.map_append, List.foldl_append]; rfl
   generalize l[k] = u at *
   unfold Sl.val at u0 u1 u2
   have hcu : unCost (l.take k) + u.cost ≤ 2000000 := by
    have h1 := HCO.out; have h2 := HCL.out; have h3 := HCOST.out
    unfold unCost at h3 ⊢
    omega
   obtain ⟨p0, c0, hpv, -⟩ := own_shape hjd.jb.is.parts
   obtain ⟨p1, c1, hmv, -⟩ := own_shape hjd.jb.is.marks
   obtain ⟨p2, c2, hgv, -⟩ := own_shape hjd.jb.is.globals
   have hoz := hjd.jb.head
   rw [hpv, hmv, hgv] at hoz
   have o0 := cell_of_row _ _ 0 _ _ _ hoz
   have o1 := cell_of_row _ _ 1 _ _ _ hoz
   have o2 := cell_of_row _ _ 2 _ _ _ hoz
   simp only [List.getElem?_toArray, List.getElem?_cons_zero, List.getElem?_cons_succ] at o0 o1 o2
   have HAD := hid (add_any (W := W) (w0 := wd) X (unCost (l.take k)) u hjd.jb.is hjd.jb.hz hjd.b hjd.jb.fv hjd.jb.fs hs HUI.out hcu)
   rw [hpv, hmv, hgv] at HAD
   have HJD := hid hjd
   clear hj hp hs hbd hjd hrow hcu hpv hmv hgv hoz
   go_upto_region 5 with (fail)
   refine wp_region_held_drew (S := fun _ => True) (by kernel_rfl) trivial (fun hHeld => ?_)
   rw [← hwd] at *
   refine wpAnyH_take (i := 1) (oi := { dst := some 13, op := Op.move (Operand.tmp 0), type := 44, pos := "ref.go:200", after := #[], guard := none }) (v := ?pav1) rfl (by kernel_rfl) (by kernel_rfl) (by kernel_rfl) (fun _ _ _ h => h) (Or.inl ⟨by rfl, ?pah1⟩) (by assumption) ?par1
   case pah1 => ((intro w hSw; (try dsimp only at hSw); go_simp); try with_reducible rfl)
   try simp only [Act.put, List.setIfInBounds_toArray, List.set_cons_zero, List.set_cons_succ]
   refine wpAnyH_take (i := 2) (oi := { dst := some 14, op := Op.move (Operand.tmp 4), type := 3, pos := "ref.go:200", after := #[], guard := none }) (v := ?pav2) rfl (by kernel_rfl) (by kernel_rfl) (by kernel_rfl) (fun _ _ _ h => h) (Or.inl ⟨by rfl, ?pah2⟩) (by assumption) ?par2
   case pah2 => ((intro w hSw; (try dsimp only at hSw); go_simp); try with_reducible rfl)
   try simp only [Act.put, List.setIfInBounds_toArray, List.set_cons_zero, List.set_cons_succ]
   refine wpAnyH_take (i := 3) (oi := { dst := some 15, op := Op.indexAddr 44 (Operand.tmp 13) (Operand.tmp 14), type := 0, pos := "ref.go:200", after := #[{ on := 1, ground := Ground.data }, { on := 2, ground := Ground.data }], guard := none }) (v := ?pav3) rfl (by kernel_rfl) (by kernel_rfl) (by kernel_rfl) (fun _ _ _ h => h) (Or.inl ⟨by rfl, ?pah3⟩) (by assumption) ?par3
   case pah3 => ((intro w hSw; (try dsimp only at hSw); go_simp); try with_reducible rfl)
   try simp only [Act.put, List.setIfInBounds_toArray, List.set_cons_zero, List.set_cons_succ]
   refine wpAnyH_ready (rs := [0, 4]) (by kernel_rfl) (by simp) ?_
   refine AllReadyH.cons (o := { dst := some 12, op := Op.load 32 (Operand.tmp 3), type := 32, pos := "ref.go:200", after := #[], guard := none }) rfl (fun K hK => ?_) ?_
   ·go_simp; refine hK.out _ _ trivial (fun hHeld => ?_)
    clear hK K
    try simp only [Act.put, List.setIfInBounds_toArray, List.set_cons_zero, List.set_cons_succ]
    refine wpAnyH_ready (rs := [4]) (by kernel_rfl) (by simp) ?_
    refine AllReadyH.cons (o := { dst := some 16, op := Op.load 32 (Operand.tmp 15), type := 32, pos := "ref.go:200", after := #[{ on := 3, ground := Ground.data }], guard := none }) rfl (fun K hK => ?_) AllReadyH.nil
    go_simp; refine hK.out _ _ trivial (fun hHeld => ?_)
    clear hK K
    try simp only [Act.put, List.setIfInBounds_toArray, List.set_cons_zero, List.set_cons_succ]
    refine wpAnyH_ready (rs := [5]) (by kernel_rfl) (by simp) ?_
    refine AllReadyH.cons (o := { dst := some 17, op := Op.call { callee := Callee.value (Operand.func 32), args := #[Operand.tmp 12, Operand.tmp 16], argTypes := #[32, 32] }, type := 32, pos := "ref.go:200", after := #[{ on := 0, ground := Ground.data }, { on := 4, ground := Ground.data }], guard := none }) rfl (fun K hK => ?_) AllReadyH.nil
    go_simp; go_at_call 32; (with_reducible refine HAD.out.mono ?_); rintro e w2 ⟨X', rfl, hF, hXp, hXs, hfv, hfs, hb2, ht2⟩; obtain ⟨q0, a0, e0, -⟩ := own_shape hF.parts; obtain ⟨q1, a1, e1, -⟩ := own_shape hF.marks; obtain ⟨q2, a2, e2, -⟩ := own_shape hF.globals; rw [e0, e1, e2]; obtain ⟨f1, f2⟩ := HJD.out.fin hF hfv hfs hb2 ht2 e0 e1 e2; have g0 := frozen_of_row _ _ 0 _ _ f1; have g1 := frozen_of_row _ _ 1 _ _ f1; have g2 := frozen_of_row _ _ 2 _ _ f1; have t0 := cell_of_row _ _ 0 _ _ _ f1; have t1 := cell_of_row _ _ 1 _ _ _ f1; have t2 := cell_of_row _ _ 2 _ _ _ f1; simp only [List.getElem?_toArray, List.getElem?_cons_zero, List.getElem?_cons_succ] at t0 t1 t2; have HF := hid (And.intro f2 (And.intro hXp hXs)); clear f1 f2 hF hXp hXs hfv hfs hb2 ht2 e0 e1 e2; refine hK.out _ _ trivial (fun hHeld => ?_)
    clear hK K
    try simp only [Act.put, List.setIfInBounds_toArray, List.set_cons_zero, List.set_cons_succ]
    refine wpAnyH_ready (rs := [6]) (by kernel_rfl) (by simp) ?_
    refine AllReadyH.cons (o := { dst := none, op := Op.store 32 (Operand.tmp 3) (Operand.tmp 17), type := 0, pos := "ref.go:200", after := #[{ on := 5, ground := Ground.data }, { on := 5, ground := Ground.chain }, { on := 0, ground := Ground.phase }, { on := 1, ground := Ground.phase }, { on := 2, ground := Ground.phase }, { on := 3, ground := Ground.phase }, { on := 4, ground := Ground.phase }, { on := 5, ground := Ground.phase }], guard := none }) rfl (fun K hK => ?_) AllReadyH.nil
    go_simp; refine hK.out _ _ trivial (fun hHeld => ?_)
    clear hK K
    try simp only [Act.put, List.setIfInBounds_toArray, List.set_cons_zero, List.set_cons_succ]
    refine wpAnyH_done (by kernel_rfl) ?_ _
    go_wp2_with fail
    exact ⟨⟨k + 1, by omega, by go_num, X', HF.out.1, by rw [HST.out, ← HP.out]; exact HF.out.2.1, by unfold unCost; rw [HCO.out]; exact HF.out.2.2⟩, by simp [intOf]; omega⟩
   refine AllReadyH.cons (o := { dst := some 16, op := Op.load 32 (Operand.tmp 15), type := 32, pos := "ref.go:200", after := #[{ on := 3, ground := Ground.data }], guard := none }) rfl (fun K hK => ?_) AllReadyH.nil
   go_simp; refine hK.out _ _ trivial (fun hHeld => ?_)
   clear hK K
   try simp only [Act.put, List.setIfInBounds_toArray, List.set_cons_zero, List.set_cons_succ]
   refine wpAnyH_ready (rs := [0]) (by kernel_rfl) (by simp) ?_
   refine AllReadyH.cons (o := { dst := some 12, op := Op.load 32 (Operand.tmp 3), type := 32, pos := "ref.go:200", after := #[], guard := none }) rfl (fun K hK => ?_) AllReadyH.nil
   go_simp; refine hK.out _ _ trivial (fun hHeld => ?_)
   clear hK K
   try simp only [Act.put, List.setIfInBounds_toArray, List.set_cons_zero, List.set_cons_succ]
   refine wpAnyH_ready (rs := [5]) (by kernel_rfl) (by simp) ?_
   refine AllReadyH.cons (o := { dst := some 17, op := Op.call { callee := Callee.value (Operand.func 32), args := #[Operand.tmp 12, Operand.tmp 16], argTypes := #[32, 32] }, type := 32, pos := "ref.go:200", after := #[{ on := 0, ground := Ground.data }, { on := 4, ground := Ground.data }], guard := none }) rfl (fun K hK => ?_) AllReadyH.nil
   go_simp; go_at_call 32; (with_reducible refine HAD.out.mono ?_); rintro e w2 ⟨X', rfl, hF, hXp, hXs, hfv, hfs, hb2, ht2⟩; obtain ⟨q0, a0, e0, -⟩ := own_shape hF.parts; obtain ⟨q1, a1, e1, -⟩ := own_shape hF.marks; obtain ⟨q2, a2, e2, -⟩ := own_shape hF.globals; rw [e0, e1, e2]; obtain ⟨f1, f2⟩ := HJD.out.fin hF hfv hfs hb2 ht2 e0 e1 e2; have g0 := frozen_of_row _ _ 0 _ _ f1; have g1 := frozen_of_row _ _ 1 _ _ f1; have g2 := frozen_of_row _ _ 2 _ _ f1; have t0 := cell_of_row _ _ 0 _ _ _ f1; have t1 := cell_of_row _ _ 1 _ _ _ f1; have t2 := cell_of_row _ _ 2 _ _ _ f1; simp only [List.getElem?_toArray, List.getElem?_cons_zero, List.getElem?_cons_succ] at t0 t1 t2; have HF := hid (And.intro f2 (And.intro hXp hXs)); clear f1 f2 hF hXp hXs hfv hfs hb2 ht2 e0 e1 e2; refine hK.out _ _ trivial (fun hHeld => ?_)
   clear hK K
   try simp only [Act.put, List.setIfInBounds_toArray, List.set_cons_zero, List.set_cons_succ]
   refine wpAnyH_ready (rs := [6]) (by kernel_rfl) (by simp) ?_
   refine AllReadyH.cons (o := { dst := none, op := Op.store 32 (Operand.tmp 3) (Operand.tmp 17), type := 0, pos := "ref.go:200", after := #[{ on := 5, ground := Ground.data }, { on := 5, ground := Ground.chain }, { on := 0, ground := Ground.phase }, { on := 1, ground := Ground.phase }, { on := 2, ground := Ground.phase }, { on := 3, ground := Ground.phase }, { on := 4, ground := Ground.phase }, { on := 5, ground := Ground.phase }], guard := none }) rfl (fun K hK => ?_) AllReadyH.nil
   go_simp; refine hK.out _ _ trivial (fun hHeld => ?_)
   clear hK K
   try simp only [Act.put, List.setIfInBounds_toArray, List.set_cons_zero, List.set_cons_succ]
   refine wpAnyH_done (by kernel_rfl) ?_ _
   go_wp2_with fail
   exact ⟨⟨k + 1, by omega, by go_num, X', HF.out.1, by rw [HST.out, ← HP.out]; exact HF.out.2.1, by unfold unCost; rw [HCO.out]; exact HF.out.2.2⟩, by simp [intOf]; omega⟩
  ·have hke : k = N := by omega
   subst hke
   obtain ⟨p0, c0, hpv, -⟩ := own_shape hj.jb.is.parts
   obtain ⟨p1, c1, hmv, -⟩ := own_shape hj.jb.is.marks
   obtain ⟨p2, c2, hgv, -⟩ := own_shape hj.jb.is.globals
   have hoz := hj.jb.head
   rw [hpv, hmv, hgv] at hoz
   have o0 := cell_of_row _ _ 0 _ _ _ hoz
   have o1 := cell_of_row _ _ 1 _ _ _ hoz
   have o2 := cell_of_row _ _ 2 _ _ _ hoz
   simp only [List.getElem?_toArray, List.getElem?_cons_zero, List.getElem?_cons_succ] at o0 o1 o2
   have r0 := cell_of_row _ _ 0 _ _ _ hj.res
   have r1 := cell_of_row _ _ 1 _ _ _ hj.res
   have r2 := cell_of_row _ _ 2 _ _ _ hj.res
   have g0 := frozen_of_row _ _ 0 _ _ hj.res
   have g1 := frozen_of_row _ _ 1 _ _ hj.res
   have g2 := frozen_of_row _ _ 2 _ _ hj.res
   simp only [List.getElem?_toArray, List.getElem?_cons_zero, List.getElem?_cons_succ] at r0 r1 r2
   have HV := hid (And.intro hpv (And.intro hmv hgv))
   clear hj hp hs hpv hmv hgv hoz
   go_wp2_with fail
   refine bodyPost_ret (v := .agg #[.slice p0 X.ps.length c0, .slice p1 X.ms.length c1, .slice p2 X.gs.length c2]) (by simp [results, Try.results19, go_sem, r0, r1, r2]) rfl ?_
   have h := HJ.out
   obtain ⟨wf, hwf⟩ : ∃ wf, wf = ((wr.setCell ⟨W.heap.size, 0, none⟩ (.slice p0 X.ps.length c0)).setCell ⟨W.heap.size, 1, none⟩ (.slice p1 X.ms.length c1)).setCell ⟨W.heap.size, 2, none⟩ (.slice p2 X.gs.length c2) := ⟨_, rfl⟩
   rw [← hwf]
   have hg9 : wr.grownBy wf (some W.heap.size) := by
    rw [hwf]; exact ⟨rfl, rfl, rfl, by simp, fun k _ hk => (heap_setCell_other _ _ _ _ (fun e => hk (by rw [e]))).trans ((heap_setCell_other _ _ _ _ (fun e => hk (by rw [e]))).trans (heap_setCell_other _ _ _ _ (fun e => hk (by rw [e]))))⟩
   have hl : Lies W.heap.size (fun x => own3 x ∨ isOB x) wr wf := Lies.grown (x := 32 + 1) hg9 (fun g e => by cases e; exact ⟨tag_row h.res, Nat.le_refl _⟩) (by unfold own3 isOB; decide) h.jb.hz
   have hp := HP.out
   have hs := HS.out
   rw [List.take_of_length_le (by rw [HN.out]; exact Nat.le_refl _)] at hp hs
   exact ⟨⟨X, by rw [HV.out.1, HV.out.2.1, HV.out.2.2], h.jb.is.lies hl, hp, hs, h.jb.fv⟩, h.b.grown hg9 h.b.size (fun g e => by cases e; exact Nat.le_refl _)⟩
end Go.Proofs.Ythlingholhjcnaa
namespace Go.Proofs.Ythlingholhjcnaa
open Go.RowKit
def look (l : List Pt) (x : ByteArray) : Option Pt := l.find? (fun p => decide (p.name = x))
def nms (l : List Pt) : List ByteArray := l.map Pt.name
def comb (o : Option Pt) (p : Pt) : Option Pt := match o with | some q => some { q with pieces := q.pieces ++ p.pieces } | none => some p
def cntO (o : Option Pt) : Nat := match o with | some q => q.pieces.length | none => 0
def ext1 (ns : List ByteArray) (x : ByteArray) : List ByteArray := match idxO ns x with | some _ => ns | none => ns ++ [x]
def exts (ns : List ByteArray) (l : List ByteArray) : List ByteArray := l.foldl ext1 ns
theorem look_cons (p : Pt) (l : List Pt) (x : ByteArray) : look (p :: l) x = if p.name = x then some p else look l x := by
 unfold look
 rw [List.find?_cons]
 by_cases h : p.name = x <;> simp [h]
theorem look_none {l : List Pt} {x : ByteArray} (h : x ∉ nms l) : look l x = none := by
 unfold look
 rw [List.find?_eq_none]
 intro p hp
 simp only [decide_eq_true_eq]
 intro e
 exact h (List.mem_map.2 ⟨p, hp, e⟩)
theorem look_app (l : List Pt) (p : Pt) (x : ByteArray) : look (l ++ [p]) x = (look l x).or (if p.name = x then some p else none) := by
 unfold look
 rw [List.find?_append]
 congr 1
 by_cases h : p.name = x <;> simp [h]
theorem idxO_none_iff {l : List ByteArray} {x : ByteArray} : idxO l x = none ↔ x ∉ l := by
 unfold idxO
 rw [List.findIdx?_eq_none_iff]
 constructor
 ·intro h hx; have := h x hx; simp at this
 ·intro h y hy; simp only [decide_eq_false_iff_not]; intro e; subst e; exact h hy
theorem idxO_some {l : List ByteArray} {x : ByteArray} {i : Nat} (h : idxO l x = some i) : l[i]? = some x := by
 unfold idxO at h
 obtain ⟨hi, h1, _⟩ := List.findIdx?_eq_some_iff_getElem.1 h
 rw [List.getElem?_eq_getElem hi]
 simpa using h1
theorem idxO_app {l t : List ByteArray} {x : ByteArray} (h : x ∈ l) : idxO (l ++ t) x = idxO l x := by
 unfold idxO
 rw [List.findIdx?_append]
 cases e : l.findIdx? (fun y => decide (y = x)) with
 | some i => rfl
 | none => exact absurd h (idxO_none_iff.1 e)
theorem nodup_inj {α : Type} {l : List α} (hn : l.Nodup) {i j : Nat} (hi : i < l.length) (hj : j < l.length) (h : l[i] = l[j]) : i = j := by
 have hp := List.pairwise_iff_getElem.1 hn
 rcases Nat.lt_trichotomy i j with g | g | g
 ·exact absurd h (hp i j hi hj g)
 ·exact g
 ·exact absurd h.symm (hp j i hj hi g)
theorem ext1_pos {ns : List ByteArray} {x : ByteArray} (h : x ∈ ns) : ext1 ns x = ns := by
 unfold ext1
 cases e : idxO ns x with
 | some i => rfl
 | none => exact absurd h (idxO_none_iff.1 e)
theorem ext1_neg {ns : List ByteArray} {x : ByteArray} (h : x ∉ ns) : ext1 ns x = ns ++ [x] := by
 unfold ext1
 rw [idxO_none_iff.2 h]
theorem nms_modify (l : List Pt) (i : Nat) (a : List Pc) : nms (l.modify i (appPcs a)) = nms l := by
 unfold nms
 apply List.ext_getElem?
 intro j
 rw [List.getElem?_map, List.getElem?_map, List.getElem?_modify]
 by_cases e : i = j
 ·simp only [if_pos e]; cases l[j]? <;> simp [appPcs]
 ·simp [e]
theorem look_modify : ∀ (l : List Pt) (i : Nat) (a : List Pc) (x : ByteArray), (nms l).Nodup → (nms l)[i]? = some x → ∀ y, look (l.modify i (appPcs a)) y = if x = y then (look l y).map (appPcs a) else look l y
 | [], i, a, x, _, h, y => by simp [nms] at h
 | p :: l, 0, a, x, hn, h, y => by
  have hx : p.name = x := by simpa [nms] using h
  have hpn : p.name ∉ nms l := (List.nodup_cons.1 hn).1
  rw [List.modify_zero_cons, look_cons, look_cons]
  show (if (appPcs a p).name = y then some (appPcs a p) else look l y) = _
  have e : (appPcs a p).name = p.name := rfl
  rw [e, hx]
  by_cases h1 : x = y
  ·simp [h1]
  ·simp [h1]
 | p :: l, i + 1, a, x, hn, h, y => by
  have hx : (nms l)[i]? = some x := by simpa [nms] using h
  have hpn : p.name ∉ nms l := (List.nodup_cons.1 hn).1
  have hne : p.name ≠ x := fun e => hpn (by rw [e]; exact List.mem_of_getElem? hx)
  rw [List.modify_succ_cons, look_cons, look_cons, look_modify l i a x (List.nodup_cons.1 hn).2 hx y]
  by_cases h1 : p.name = y
  ·have : x ≠ y := fun e => hne (h1.trans e.symm)
   simp [h1, this]
  ·simp [h1]
theorem jp_all (S : FP) (hn : (nms S.ps).Nodup) (p : Pt) : nms (S.joinPart p).1.ps = ext1 (nms S.ps) p.name ∧ (∀ x, look (S.joinPart p).1.ps x = if p.name = x then comb (look S.ps x) p else look S.ps x) ∧
  idxO (nms (S.joinPart p).1.ps) p.name = some (S.joinPart p).2.1 ∧ (S.joinPart p).2.2 = cntO (look S.ps p.name) := by
 unfold FP.joinPart FP.part
 cases e : idxO (S.ps.map Pt.name) p.name with
 | some i =>
  have hx := idxO_some e
  have hmem : p.name ∈ nms S.ps := List.mem_of_getElem? hx
  have hl := look_modify S.ps i p.pieces p.name hn hx
  dsimp only [FP.putAll]
  rw [nms_modify]
  refine ⟨(ext1_pos hmem).symm, fun x => ?_, e, ?_⟩
  ·rw [hl x]
   by_cases h1 : p.name = x
   ·rw [if_pos h1, if_pos h1]
    cases h2 : look S.ps x with
    | none => exfalso; rw [← h1] at h2; unfold look at h2; rw [List.find?_eq_none] at h2; obtain ⟨q, hq, e2⟩ := List.mem_map.1 hmem; exact absurd e2 (by simpa using h2 q hq)
    | some q => rfl
   ·rw [if_neg h1, if_neg h1]
  ·unfold pcsAt
   obtain ⟨hi, -⟩ := List.getElem?_eq_some_iff.1 hx
   have hi2 : i < S.ps.length := by simpa using hi
   rw [List.getElem?_eq_getElem hi2]
   have hq : look S.ps p.name = some S.ps[i] := by
    have h3 : S.ps[i].name = p.name := by
     have := hx; rw [List.getElem?_map, List.getElem?_eq_getElem hi2] at this; simpa using this
    unfold look
    rw [List.find?_eq_some_iff_getElem]
    refine ⟨by simpa using h3, i, hi2, rfl, fun j hj => ?_⟩
    simp only [Bool.not_eq_true', decide_eq_false_iff_not]
    intro e3
    have := nodup_inj hn (i := j) (j := i) (by simp [nms]; omega) (by simp [nms]; omega) (by simp [nms]; rw [e3, h3])
    omega
   rw [hq]; rfl
 | none =>
  have hx : p.name ∉ nms S.ps := idxO_none_iff.1 e
  have hmod : (S.ps ++ [(⟨p.name, p.file, p.line, []⟩ : Pt)]).modify S.ps.length (appPcs p.pieces) = S.ps ++ [p] := by
   apply List.ext_getElem?
   intro j
   rw [List.getElem?_modify]
   by_cases h1 : j < S.ps.length
   ·rw [List.getElem?_append_left h1, List.getElem?_append_left h1]; cases S.ps[j]? <;> simp [show ¬ S.ps.length = j by omega]
   ·by_cases h2 : j = S.ps.length
    ·subst h2; simp [appPcs]
    ·rw [List.getElem?_eq_none (by simp; omega), List.getElem?_eq_none (by simp; omega)]; simp
  dsimp only [FP.putAll]
  rw [hmod]
  have hnm : nms (S.ps ++ [p]) = nms S.ps ++ [p.name] := by unfold nms; rw [List.map_append]; rfl
  rw [hnm]
  refine ⟨(ext1_neg hx).symm, fun x => ?_, ?_, ?_⟩
  ·rw [look_app]
   by_cases h1 : p.name = x
   ·subst h1; rw [look_none hx]; simp [comb]
   ·simp [h1]
  ·show idxO (S.ps.map Pt.name ++ [p.name]) p.name = _
   rw [idx_app p.name e]; simp
  ·rw [look_none hx]; unfold pcsAt; simp [cntO]
theorem ext1_nodup {ns : List ByteArray} (h : ns.Nodup) (x : ByteArray) : (ext1 ns x).Nodup := by
 by_cases hx : x ∈ ns
 ·rw [ext1_pos hx]; exact h
 ·rw [ext1_neg hx, List.nodup_append]; exact ⟨h, by simp, fun a ha b hb => by simp at hb; subst hb; exact fun e => hx (e ▸ ha)⟩
theorem ext1_pre (ns : List ByteArray) (x : ByteArray) : ∃ t, ext1 ns x = ns ++ t := by
 by_cases hx : x ∈ ns
 ·exact ⟨[], by rw [ext1_pos hx]; simp⟩
 ·exact ⟨_, ext1_neg hx⟩
theorem exts_pre (l : List ByteArray) : ∀ ns, ∃ t, exts ns l = ns ++ t := by
 induction l with
 | nil => exact fun ns => ⟨[], by simp [exts]⟩
 | cons x l ih =>
  intro ns
  obtain ⟨t, h1⟩ := ext1_pre ns x
  obtain ⟨t2, h2⟩ := ih (ext1 ns x)
  exact ⟨t ++ t2, by show exts (ext1 ns x) l = _; rw [h2, h1, List.append_assoc]⟩
theorem ext1_mem (ns : List ByteArray) (x : ByteArray) : x ∈ ext1 ns x := by
 by_cases hx : x ∈ ns
 ·rw [ext1_pos hx]; exact hx
 ·rw [ext1_neg hx]; simp
theorem exts_mem {ns l : List ByteArray} {x : ByteArray} (h : x ∈ ns) : x ∈ exts ns l := by
 obtain ⟨t, ht⟩ := exts_pre l ns
 rw [ht]; exact List.mem_append_left _ h
theorem exts_mem2 : ∀ (l : List ByteArray) {ns : List ByteArray} {x : ByteArray}, x ∈ l → x ∈ exts ns l
 | a :: l, ns, x, h => by
  show x ∈ exts (ext1 ns a) l
  rcases List.mem_cons.1 h with rfl | h
  ·exact exts_mem (ext1_mem _ _)
  ·exact exts_mem2 l h
def psum (l : List Pt) (x : ByteArray) : Nat := ((l.filter (fun p => decide (p.name = x))).map (fun p => p.pieces.length)).sum
theorem cnt_comb (o : Option Pt) (p : Pt) : cntO (comb o p) = cntO o + p.pieces.length := by cases o <;> simp [comb, cntO]
theorem jps_all (l : List Pt) : ∀ (s : FP × List Nat × List Nat), (nms s.1.ps).Nodup →
  nms (joinParts s l).1.ps = exts (nms s.1.ps) (nms l) ∧ (∀ x, look (joinParts s l).1.ps x = (l.filter (fun p => decide (p.name = x))).foldl comb (look s.1.ps x)) ∧ (nms (joinParts s l).1.ps).Nodup ∧
  (joinParts s l).2.1 = s.2.1 ++ l.map (fun p => (idxO (nms (joinParts s l).1.ps) p.name).getD 0) ∧
  ((joinParts s l).2.2.length = s.2.2.length + l.length ∧ ∀ j (h : j < l.length), (joinParts s l).2.2[s.2.2.length + j]? = some (cntO (look s.1.ps l[j].name) + psum (l.take j) l[j].name)) ∧ s.2.2 <+: (joinParts s l).2.2 := by
 induction l with
 | nil => exact fun s hn => ⟨rfl, fun x => rfl, hn, by simp [joinParts], ⟨rfl, fun j h => absurd h (by simp)⟩, List.prefix_rfl⟩
 | cons p l ih =>
  intro s hn
  obtain ⟨j1, j2, j3, j4⟩ := jp_all s.1 hn p
  have hn2 : (nms (jpStep s p).1.ps).Nodup := by show (nms (s.1.joinPart p).1.ps).Nodup; rw [j1]; exact ext1_nodup hn _
  obtain ⟨i1, i2, i3, i4, ⟨i5, i6⟩, i7⟩ := ih (jpStep s p) hn2
  have e : joinParts s (p :: l) = joinParts (jpStep s p) l := rfl
  rw [e]
  have hs1 : (jpStep s p).1 = (s.1.joinPart p).1 := rfl
  have hs3 : (jpStep s p).2.2 = s.2.2 ++ [(s.1.joinPart p).2.2] := rfl
  refine ⟨by rw [i1, hs1, j1]; rfl, fun x => ?_, i3, ?_, ⟨?_, fun j h => ?_⟩, ?_⟩
  ·rw [i2 x, hs1, j2 x]
   by_cases h : p.name = x
   ·rw [List.filter_cons_of_pos (by simpa using h), List.foldl_cons, if_pos h]
   ·rw [List.filter_cons_of_neg (by simpa using h), if_neg h]
  ·rw [i4]
   show (s.2.1 ++ [(s.1.joinPart p).2.1]) ++ _ = _
   rw [List.append_assoc, List.map_cons]
   congr 1
   show (s.1.joinPart p).2.1 :: _ = _
   congr 1
   rw [i1, hs1]
   obtain ⟨t, ht⟩ := exts_pre (nms l) (nms (s.1.joinPart p).1.ps)
   rw [ht, idxO_app (by rw [j1]; exact ext1_mem _ _), j3]; rfl
  ·rw [i5, hs3]; simp; omega
  ·cases j with
   | zero =>
    have hl : s.2.2.length + 0 < (jpStep s p).2.2.length := by rw [hs3]; simp
    have := (List.prefix_iff_getElem?.1 i7) (s.2.2.length + 0) hl
    rw [this]
    congr 1
    simp only [hs3]
    simp [psum, j4]
   | succ j =>
    have := i6 j (by simpa using h)
    rw [hs3, List.length_append] at this
    simp only [List.length_cons, List.length_nil] at this
    rw [show s.2.2.length + (j + 1) = s.2.2.length + (0 + 1) + j by omega, this]
    congr 1
    rw [hs1, j2]
    simp only [List.getElem_cons_succ, List.take_succ_cons]
    have hjl : j < l.length := by simpa using h
    by_cases h1 : p.name = l[j].name
    ·rw [if_pos h1, cnt_comb]
     unfold psum
     rw [List.filter_cons_of_pos (by simpa using h1), List.map_cons, List.sum_cons]
     omega
    ·rw [if_neg h1]
     unfold psum
     rw [List.filter_cons_of_neg (by simpa using h1)]
  ·exact (List.prefix_append s.2.2 [(s.1.joinPart p).2.2]).trans (hs3 ▸ i7)
end Go.Proofs.Ythlingholhjcnaa
namespace Go.Proofs.Ythlingholhjcnaa
open Go.RowKit
structure WF (U : FP) : Prop where
 nd : (nms U.ps).Nodup
 ms : ∀ m ∈ U.ms, (0 ≤ m.part ∧ m.part < U.ps.length ∧ IntKind.i64.wrap m.piece = m.piece) ∨ (m.part = -1 ∧ m.piece = 0)
 fs : U.fs = []
theorem lists_at (S : FP) (hn : (nms S.ps).Nodup) (l : List Pt) {j : Nat} (hj : j < l.length) : ∃ i, idxO (exts (nms S.ps) (nms l)) l[j].name = some i ∧ natAt (joinParts (S, [], []) l).2.1 (j : Nat) = i ∧ natAt (joinParts (S, [], []) l).2.2 (j : Nat) = cntO (look S.ps l[j].name) + psum (l.take j) l[j].name := by
 obtain ⟨h1, h2, h3, h4, ⟨h5, h6⟩, h7⟩ := jps_all l (S, [], []) hn
 dsimp only at h1 h4
 have hm : l[j].name ∈ exts (nms S.ps) (nms l) := exts_mem2 _ (List.mem_map.2 ⟨_, List.getElem_mem hj, rfl⟩)
 obtain ⟨i, hi⟩ : ∃ i, idxO (exts (nms S.ps) (nms l)) l[j].name = some i := by
  cases e : idxO (exts (nms S.ps) (nms l)) l[j].name with
  | some i => exact ⟨i, rfl⟩
  | none => exact absurd hm (idxO_none_iff.1 e)
 refine ⟨i, hi, ?_, ?_⟩
 ·unfold natAt
  rw [h4, h1]
  simp [hj, hi]
 ·have := h6 j hj
  simp only [List.length_nil, Nat.zero_add] at this
  unfold natAt
  simp [List.getD, this]
theorem nms_len (l : List Pt) : (nms l).length = l.length := by simp [nms]
theorem wrap_wrap (a b : Int) : IntKind.i64.wrap (IntKind.i64.wrap a + b) = IntKind.i64.wrap (a + b) := by
 unfold IntKind.wrap
 simp only [IntKind.bits, IntKind.signed, Bool.true_and, decide_eq_true_eq, ge_iff_le]
 repeat' split
 all_goals omega
theorem wrap_idem (a : Int) : IntKind.i64.wrap (IntKind.i64.wrap a) = IntKind.i64.wrap a := by
 have := wrap_wrap a 0
 rw [Int.add_zero, Int.add_zero] at this
 exact this
theorem ju_fs (S U : FP) : (S.joinUnit U).fs = S.fs := (joinParts_ms U.ps (S, [], [])).2.2.1
theorem ju_names (S U : FP) (hn : (nms S.ps).Nodup) : nms (S.joinUnit U).ps = exts (nms S.ps) (nms U.ps) := (jps_all U.ps (S, [], []) hn).1
theorem ju_nd (S U : FP) (hn : (nms S.ps).Nodup) : (nms (S.joinUnit U).ps).Nodup := (jps_all U.ps (S, [], []) hn).2.2.1
theorem move_in (S U : FP) (hn : (nms S.ps).Nodup) (m : Mk) (h0 : 0 ≤ m.part) (h1 : m.part < U.ps.length) : ∃ (j : Nat) (hj : j < U.ps.length) (i : Nat), m.part = j ∧ idxO (exts (nms S.ps) (nms U.ps)) U.ps[j].name = some i ∧
  moveM (joinParts (S, [], []) U.ps).2.1 (joinParts (S, [], []) U.ps).2.2 m = { m with part := (i : Nat), piece := IntKind.i64.wrap (m.piece + ((cntO (look S.ps U.ps[j].name) + psum (U.ps.take j) U.ps[j].name : Nat) : Int)) } := by
 obtain ⟨j, hj⟩ : ∃ j : Nat, m.part = j := ⟨m.part.toNat, by omega⟩
 have hjl : j < U.ps.length := by omega
 obtain ⟨i, e1, e2, e3⟩ := lists_at S hn U.ps hjl
 have hlen : (joinParts (S, [], []) U.ps).2.1.length = U.ps.length := by have := (joinParts_ms U.ps (S, [], [])).2.2.2.1; simpa using this
 refine ⟨j, hjl, i, hj, e1, ?_⟩
 unfold moveM
 rw [if_pos ⟨h0, by rw [hlen]; exact h1⟩, hj, e2, e3]
theorem move_out (S U : FP) (m : Mk) (h : ¬ (0 ≤ m.part ∧ m.part < U.ps.length)) : moveM (joinParts (S, [], []) U.ps).2.1 (joinParts (S, [], []) U.ps).2.2 m = { m with part := -1, piece := 0 } := by
 have hlen : (joinParts (S, [], []) U.ps).2.1.length = U.ps.length := by have := (joinParts_ms U.ps (S, [], [])).2.2.2.1; simpa using this
 unfold moveM
 rw [if_neg (by rw [hlen]; exact h)]
theorem WF.join {T : FP} (h : WF T) (U : FP) : WF (T.joinUnit U) := by
 have hnd := ju_nd T U h.nd
 have hnm := ju_names T U h.nd
 obtain ⟨t, ht⟩ := exts_pre (nms U.ps) (nms T.ps)
 have hlen : T.ps.length ≤ (T.joinUnit U).ps.length := by
  have := congrArg List.length hnm
  rw [ht, nms_len, List.length_append, nms_len] at this
  omega
 refine ⟨hnd, fun m hm => ?_, by rw [ju_fs]; exact h.fs⟩
 rcases List.mem_append.1 (show m ∈ T.ms ++ U.ms.map _ from hm) with h1 | h1
 ·rcases h.ms m h1 with ⟨a, b, c⟩ | h2
  ·exact .inl ⟨a, by omega, c⟩
  ·exact .inr h2
 ·obtain ⟨q, -, rfl⟩ := List.mem_map.1 h1
  by_cases hq : 0 ≤ q.part ∧ q.part < U.ps.length
  ·obtain ⟨j, hj, i, e1, e2, e3⟩ := move_in T U h.nd q hq.1 hq.2
   rw [e3]
   refine .inl ⟨by simp, ?_, wrap_idem _⟩
   have h3 := idxO_some e2
   rw [← hnm] at h3
   have := (List.getElem?_eq_some_iff.1 h3).1
   rw [nms_len] at this
   show (i : Int) < _
   omega
  ·rw [move_out T U q hq]; exact .inr ⟨rfl, rfl⟩
theorem wf_nil : WF FP.nil := ⟨by simp [FP.nil, nms], fun m hm => by simp [FP.nil] at hm, rfl⟩
theorem wf_fold (l : List FP) : ∀ {S : FP}, WF S → WF (l.foldl FP.joinUnit S) := by
 induction l with
 | nil => exact fun h => h
 | cons u l ih => exact fun h => ih (h.join u)
theorem wf_join (l : List FP) : WF (joinP l) := wf_fold l wf_nil
end Go.Proofs.Ythlingholhjcnaa
namespace Go.Proofs.Ythlingholhjcnaa
open Go.RowKit
variable {W W' w w' : World}
theorem begunX {X : FV} {n : Nat} (h : X.pl = (FP.rows 0 [rowB n]).1) : ∃ y x, X.ps = [y] ∧ y.pieces.l = [x] ∧ x.kind = 2 ∧ X.ms.length = 1 ∧ X.gs.length = 0 ∧ X.fs.length = 0 ∧ itemP (firstM X.ms) (0 : Nat) x = ⟨3, 0, 0, 0, 0, -1048576, 1048572⟩ := by
 rw [rowsB] at h
 obtain ⟨pv, mv, gv, fv, ps, ms, gs, fs⟩ := X
 have h1 : ps.map PtR.pl = [⟨text0, 0, 1, [pcB 2]⟩] := congrArg FP.ps h
 have h2 : ms = [⟨⟨#[97]⟩, 0, 1, 0, 0, false, v00⟩] := congrArg FP.ms h
 have h3 : gs = [] := congrArg FP.gs h
 have h4 : fs = [] := congrArg FP.fs h
 obtain ⟨y, rfl⟩ : ∃ y, ps = [y] := by
  cases ps with
  | nil => cases h1
  | cons y l => cases l with
   | nil => exact ⟨y, rfl⟩
   | cons z l => simp at h1
 have h5 : y.pl = ⟨text0, 0, 1, [pcB 2]⟩ := by simpa using h1
 have h6 : y.pieces.l.map PcR.pl = [pcB 2] := congrArg Pt.pieces h5
 obtain ⟨x, hx⟩ : ∃ x, y.pieces.l = [x] := by
  revert h6
  cases y.pieces.l with
  | nil => intro h6; cases h6
  | cons x l => cases l with
   | nil => exact fun _ => ⟨x, rfl⟩
   | cons z l => intro h6; simp at h6
 rw [hx] at h6
 have h7 : x.pl = pcB 2 := by simpa using h6
 have k1 : x.kind = 2 := congrArg Pc.kind h7
 have k2 : x.l.name = ⟨#[98, 46, 101, 113]⟩ := congrArg Pc.name h7
 have k3 : x.l.opers.l = [opB] := congrArg Pc.opers h7
 refine ⟨y, x, rfl, hx, k1, by rw [h2]; rfl, by rw [h3]; rfl, by rw [h4]; rfl, ?_⟩
 unfold itemP
 rw [k1, k2, k3, h2, if_pos rfl]
 dsimp only
 kernel_rfl
structure BgX (w5 : World) (b o qb qo : Nat) (qc c0 d1 e2 : Nat) (m1 g2 : Option Addr) : Prop where
 c3 : w5.cell? ⟨b, o + 3, none⟩ = some (.slice (some ⟨qb, qo, none⟩) 1 qc)
 k : w5.cell? ⟨qb, qo, none⟩ = some (.int .i64 2)
 lt : b < w5.heap.size ∧ qb < w5.heap.size
 it : ∀ w, Below w5.heap.size w5 w → Calls Try.prog 17 #[.agg #[.slice (some ⟨b, o, none⟩) 1 c0, .slice m1 1 d1, .slice g2 0 e2], .int .i64 0] w fun e w' =>
  ∃ ib io ic, e = .returned (.slice (some ⟨ib, io, none⟩) 1 ic) ∧ w'.cell? ⟨ib, io, none⟩ = some (.int .i64 3) ∧ w'.cell? ⟨ib, io + 1, none⟩ = some (.int .i64 0) ∧ w'.cell? ⟨ib, io + 2, none⟩ = some (.int .i64 0) ∧ w'.cell? ⟨ib, io + 3, none⟩ = some (.int .i64 0) ∧ w'.cell? ⟨ib, io + 4, none⟩ = some (.int .i64 0) ∧ w'.cell? ⟨ib, io + 5, none⟩ = some (.int .i64 (-1048576)) ∧ w'.cell? ⟨ib, io + 6, none⟩ = some (.int .i64 1048572) ∧ ib < w'.heap.size ∧ Below w.heap.size w w'
theorem bgone {W4 : World} (H : Bg W W4) : Calls Try.prog 9 #[.int .i64 0, .slice (some ⟨W.heap.size + 1 + 1 + 1, 0, none⟩) 1 1] W4 fun e w5 =>
  ∃ b o qb qo qc c0 d1 e2 m1 g2 f3 h3, e = .returned (.tuple #[.agg #[.slice (some ⟨b, o, none⟩) 1 c0, .slice m1 1 d1, .slice g2 0 e2], .slice f3 0 h3]) ∧ BgX w5 b o qb qo qc c0 d1 e2 m1 g2 ∧ Below W4.heap.size W4 w5 := by
 refine H.one.mono ?_
 rintro e w5 ⟨⟨X, rfl, h5, hp5, hs5⟩, hb5⟩
 obtain ⟨y, x, hy, hx, hk, hm, hg, hf, hit⟩ := begunX hp5
 have hrd := h5.rd hs5 (by show costs [rowB 0] ≤ _; decide)
 obtain ⟨p0, c0, e0, r0⟩ := hrd.pv
 obtain ⟨p1, d1, e1, r1⟩ := hrd.mv
 obtain ⟨p2, e2, e2', r2⟩ := hrd.gv
 obtain ⟨p3, h3, e3, r3⟩ := hrd.fv
 rw [hy] at e0 r0
 rw [hm] at e1
 rw [hg] at e2'
 rw [hf] at e3
 obtain ⟨b, o, rfl, hbl, -⟩ := r0.at (by simp [PtR.cells])
 obtain ⟨-, -, -, q3⟩ := ptr_cells r0 0 (by simp)
 have hpt := hrd.pts y (by rw [hy]; simp)
 have hpr := hpt.row
 rw [hx] at hpr
 obtain ⟨qb, qo, hq, hql, -⟩ := hpr.at (by simp [PcR.cells])
 rw [hq] at hpr
 obtain ⟨k0, -⟩ := pcr_cells hpr 0 (by simp)
 simp only [Nat.zero_mul, Nat.add_zero, List.getElem_cons_zero] at q3 k0
 rw [hk] at k0
 have q3 : w5.cell? ⟨b, o + 3, none⟩ = some (.slice (some ⟨qb, qo, none⟩) 1 y.pieces.c) := by rw [q3]; unfold Sl.val; rw [hx, hq]; rfl
 refine ⟨b, o, qb, qo, y.pieces.c, c0, d1, e2, p1, p2, p3, h3, by rw [e0, e1, e2', e3]; rfl, ⟨q3, k0, ⟨hbl, hql⟩, fun w hw => ?_⟩, hb5⟩
 have := items_any (hrd.below hw) 0 y (by rw [hy]; rfl) (by rw [hx]; exact (by decide : 1 ≤ 4000000))
 rw [e0, e1, e2'] at this
 refine Calls.mono this ?_
 rintro e w' ⟨p, c, rfl, hr, hb⟩
 rw [hx] at hr ⊢
 rw [List.map_cons, List.map_nil, hit] at hr
 obtain ⟨ib, io, rfl, hil, hc⟩ := hr.at (by simp [Itm.cells])
 refine ⟨ib, io, c, rfl, hc 0 (by decide), hc 1 (by decide), hc 2 (by decide), hc 3 (by decide), hc 4 (by decide), hc 5 (by decide), hc 6 (by decide), hil, hb⟩
set_option maxRecDepth 40000 in
set_option maxHeartbeats 4000000 in
theorem begun_any (W : World) : Calls Try.prog 7 #[] W fun e w' => e = .returned (.bool true) ∧ Below W.heap.size W w' := by
 obtain ⟨W4, hW4⟩ := bg W
 have HO := hid (bgone hW4)
 have HE := hid hW4.eq
 have HB4 := hid hW4.w
 have hz4 : W.heap.size + 1 + 1 + 1 < W4.heap.size := by rw [hW4.eq]; simp
 have HZ4 := hid hz4
 clear hW4 hz4
 go_enter Try.func7, Try.ntmps7
 go_upto_region 2 with (fail)
 go_wp2_with (first
  | (go_at_call 9; rw [← HE.out]; (with_reducible refine HO.out.mono ?_); rintro e w5 ⟨b, o, qb, qo, qc, c0, d1, e2, m1, g2, f3, h3, rfl, hX5, hb5⟩; have HX5 := hid hX5; have c3 := hX5.c3; have ck := hX5.k; have hl1 := hX5.lt.1; have hl2 := hX5.lt.2; have HB5 := hid hb5; clear hX5 hb5)
  | (go_at_call 17; (with_reducible refine (HX5.out.it _ (alloc_below _ _)).mono ?_); go_loud (rintro e w7 ⟨ib, io, ic, rfl, v0, v1, v2, v3, v4, v5, v6, hil, hb7⟩; have u0 := (hb7.cell (p := ⟨w5.heap.size, 0, none⟩) (by simp)).trans (cell_of_row _ _ 0 _ _ _ (heap_alloc_new _ _)); have u1 := (hb7.cell (p := ⟨w5.heap.size, 1, none⟩) (by simp)).trans (cell_of_row _ _ 1 _ _ _ (heap_alloc_new _ _)); simp only [List.getElem?_toArray, List.getElem?_cons_zero, List.getElem?_cons_succ] at u0 u1; have c3 := (hb7.cell (p := ⟨b, o + 3, none⟩) (by simp; omega)).trans (((alloc_below _ _).cell (p := ⟨b, o + 3, none⟩) hl1).trans c3); have ck := (hb7.cell (p := ⟨qb, qo, none⟩) (by simp; omega)).trans (((alloc_below _ _).cell (p := ⟨qb, qo, none⟩) hl2).trans ck); have HB7 := hid hb7; clear hb7)))
 go_ret
 exact ⟨rfl, (HB4.out.trans (HB5.out.mono (Nat.le_trans (by omega) HB4.out.size))).trans ((alloc_below _ _).trans (HB7.out.mono (by simp)) |>.mono (Nat.le_trans HB4.out.size HB5.out.size))⟩
end Go.Proofs.Ythlingholhjcnaa
namespace Go.Proofs.Ythlingholhjcnaa
open Go.RowKit
variable {W W' w w' : World}
section
variable {S : FP} {pp pm pg pf qp qm qg qf : Option Addr} {np nm ng nf cp cm cg cf nq nn nh ni dp dm dg df : Nat} {X Y : FV}
end
theorem un_cells {g : Nat} {a b c : Value} (h : W.heap[g]? = some (.cells #[a, b, c] 32 (0, 0))) : W.cell? ⟨g, 0, none⟩ = some a ∧ W.cell? ⟨g, 1, none⟩ = some b ∧ W.cell? ⟨g, 2, none⟩ = some c :=
 ⟨cell_of_row _ _ 0 _ _ _ h, cell_of_row _ _ 1 _ _ _ h, cell_of_row _ _ 2 _ _ _ h⟩
end Go.Proofs.Ythlingholhjcnaa
namespace Go.Proofs.Ythlingholhjcnaa
open Go.RowKit
variable {W W' w w' : World}
def pcSum (l : List PtR) : Nat := (l.map (fun y => y.pieces.l.length)).sum
def unPcs (l : List UnR) : Nat := (l.map (fun u => pcSum u.parts.l)).sum
theorem ptCost_eq : ∀ l : List PtR, ptCost l = l.length + pcSum l
 | [] => rfl
 | a :: l => by have := ptCost_eq l; unfold ptCost pcSum at this ⊢; simp; omega
theorem few_cost : ∀ l : List UnR, (∀ u ∈ l, u.parts.l.length ≤ 150 ∧ u.marks.l.length ≤ 300 ∧ u.globals.l.length ≤ 300) → unCost l ≤ l.length * 750 + unPcs l
 | [], _ => Nat.le_refl _
 | a :: l, h => by
  have h1 := few_cost l (fun u hu => h u (List.mem_cons_of_mem _ hu))
  have h2 := h a (List.mem_cons_self ..)
  have h3 : a.cost = ptCost a.parts.l + a.marks.l.length + a.globals.l.length := rfl
  have h4 := ptCost_eq a.parts.l
  unfold unCost unPcs at h1 ⊢
  simp only [List.map_cons, List.sum_cons, List.length_cons]
  omega
structure FewT (l : List UnR) (W : World) (e : Ending) (w' : World) : Prop where
 ex : ∃ b, e = .returned (.bool b) ∧ (b = true → l.length ≤ 40 ∧ unCost l ≤ 40000) ∧ Below W.heap.size W w'
set_option maxRecDepth 40000 in
set_option maxHeartbeats 4000000 in
theorem fewU_any (p : Option Addr) (c : Nat) (l : List UnR) (W : World) (hrow : Row W p (l.flatMap UnR.cells)) (hin : ∀ u ∈ l, u.ok W) (hlen : l.length ≤ c) (hcap : l.length ≤ 9000000000000) :
  Calls Try.prog 15 #[.slice p l.length c] W (FewT l W) := by
 obtain ⟨N, hN⟩ : ∃ N, N = l.length := ⟨_, rfl⟩
 obtain ⟨M, hM⟩ : ∃ M, M = min N 40 := ⟨_, rfl⟩
 have HN := hid hN
 have HM := hid hM
 have HROW := hid hrow
 have HIN := hid hin
 have hmin : min (N : Int) 40 = (M : Nat) := by rw [hM]; omega
 have hMN : M ≤ N := by omega
 have hM40 : M ≤ 40 := by omega
 rw [← hN] at hlen hcap ⊢
 have hMc : (M : Int) ≤ c := by omega
 have hMc2 : M ≤ c := by omega
 clear hrow hin hN hM
 go_enter Try.func15, Try.ntmps15
 go_wp2_with (fail)
 go_loopw [3, 14] (fun nv i wr => ∃ (k : Nat), k ≤ M ∧ i = .int .i64 k ∧ nv = .int .i64 ((min (unPcs (l.take k)) 1048576 : Nat) : Int) ∧ (∀ u ∈ l.take k, u.parts.l.length ≤ 150 ∧ u.marks.l.length ≤ 300 ∧ u.globals.l.length ≤ 300) ∧ Below W.heap.size W wr) (fun _ i _ => M - (intOf i).toNat)
 case atStart => exact ⟨0, Nat.zero_le _, rfl, rfl, (fun u hu => by simp at hu), Below.refl _ _⟩
 case round =>
  rename World => wr
  obtain ⟨k, hk, rfl, rfl, hfw, hb⟩ := hrel
  have HFW := hid hfw
  have HB := hid hb
  obtain ⟨a, ha⟩ : ∃ a, a = min (unPcs (l.take k)) 1048576 := ⟨_, rfl⟩
  have HA := hid ha
  rw [← ha]
  have ha2 : a ≤ 1048576 := by omega
  by_cases hlt : k < M
  ·have hkI : (k : Int) < M := by omega
   have hkl : k < l.length := by have := HN.out; omega
   have hrow := HROW.out.below hb
   obtain ⟨b, o, rfl, hbl, -⟩ := hrow.at (by rw [flat_len UnR.cells 3 (fun _ => rfl)]; omega)
   obtain ⟨u0, u1, u2⟩ := unr_cells hrow k hkl
   have HUK := hid ((HIN.out _ (List.getElem_mem hkl)).below hb)
   have HTK : Hid (l.take (k + 1) = l.take k ++ [l[k]]) := by unfold Hid; rw [List.take_add_one, List.getElem?_eq_getElem hkl]; rfl
   generalize l[k] = u at *
   unfold Sl.val at u0 u1 u2
   obtain ⟨W5, hW5⟩ : ∃ W5, W5 = wr.alloc (.cells #[.slice u.parts.p u.parts.l.length u.parts.c, .slice u.marks.p u.marks.l.length u.marks.c, .slice u.globals.p u.globals.l.length u.globals.c] 32) := ⟨_, rfl⟩
   have HW5 := hid hW5
   have hb5 : Below wr.heap.size wr W5 := by rw [hW5]; exact alloc_below _ _
   have hx5 : W5.heap[wr.heap.size]? = some (.cells #[.slice u.parts.p u.parts.l.length u.parts.c, .slice u.marks.p u.marks.l.length u.marks.c, .slice u.globals.p u.globals.l.length u.globals.c] 32 (0, 0)) := by rw [hW5]; exact heap_alloc_new _ _
   obtain ⟨v0, v1, v2⟩ := un_cells hx5
   have HB5 : Hid (Below W.heap.size W W5) := hb.trans (hb5.mono hb.size)
   have HPR := hid (HUK.out.parts.1.row.below hb5)
   have HPK := hid HUK.out.parts.2
   obtain ⟨NP, hNP⟩ : ∃ NP, NP = u.parts.l.length := ⟨_, rfl⟩
   obtain ⟨NM, hNM⟩ : ∃ NM, NM = u.marks.l.length := ⟨_, rfl⟩
   obtain ⟨NG, hNG⟩ : ∃ NG, NG = u.globals.l.length := ⟨_, rfl⟩
   have HNS := hid (And.intro hNP (And.intro hNM hNG))
   rw [← hNP] at v0
   rw [← hNM] at v1
   rw [← hNG] at v2
   clear hfw hb ha hrow hb5 hx5 hW5 hNP hNM hNG
   go_upto_region 5 with (fail)
   rw [← HW5.out]
   clear u0 u1 u2
   have H150 : Hid (NP ≤ 150 ∨ ¬ NP ≤ 150) := Classical.em _
   by_cases b1 : (150 : Int) < NP
   ·have d1 : decide ((150 : Int) < NP) = true := by simpa using b1
    go_wp2_with fail
    refine bodyPost_ret (v := .bool false) (by simp [results, Try.results15, go_sem]) rfl ?_
    exact ⟨⟨false, rfl, by simp, HB5.out⟩⟩
   ·by_cases b2 : (300 : Int) < NM
    ·have d1 : decide ((150 : Int) < NP) = false := by simpa using b1
     have d2 : decide ((300 : Int) < NM) = true := by simpa using b2
     go_wp2_with fail
     refine bodyPost_ret (v := .bool false) (by simp [results, Try.results15, go_sem]) rfl ?_
     exact ⟨⟨false, rfl, by simp, HB5.out⟩⟩
    ·by_cases b3 : (300 : Int) < NG
     ·have d1 : decide ((150 : Int) < NP) = false := by simpa using b1
      have d2 : decide ((300 : Int) < NM) = false := by simpa using b2
      have d3 : decide ((300 : Int) < NG) = true := by simpa using b3
      go_wp2_with fail
      refine bodyPost_ret (v := .bool false) (by simp [results, Try.results15, go_sem]) rfl ?_
      exact ⟨⟨false, rfl, by simp, HB5.out⟩⟩
     ·have d1 : decide ((150 : Int) < NP) = false := by simpa using b1
      have d2 : decide ((300 : Int) < NM) = false := by simpa using b2
      have d3 : decide ((300 : Int) < NG) = false := by simpa using b3
      go_wp2_with fail
      go_loopw [3, 37] (fun nv i wy => ∃ (j : Nat), j ≤ NP ∧ i = .int .i64 j ∧ nv = .int .i64 ((min (unPcs (l.take k) + pcSum (u.parts.l.take j)) 1048576 : Nat) : Int) ∧ Below W.heap.size W wy ∧ Row wy u.parts.p (u.parts.l.flatMap PtR.cells)) (fun _ i _ => NP - (intOf i).toNat)
      case atStart => exact ⟨0, Nat.zero_le _, rfl, by rw [HA.out]; rfl, HB5.out, HPR.out⟩
      case round =>
       rename World => wy
       obtain ⟨j, hj, rfl, rfl, hby, hpr⟩ := hrel
       have HBY := hid hby
       have HPRY := hid hpr
       obtain ⟨a2, ha2'⟩ : ∃ a2, a2 = min (unPcs (l.take k) + pcSum (u.parts.l.take j)) 1048576 := ⟨_, rfl⟩
       have HA2 := hid ha2'
       rw [← ha2']
       have ha3 : a2 ≤ 1048576 := by omega
       by_cases hjl : j < NP
       ·have hjI : (j : Int) < NP := by omega
        have hjl2 : j < u.parts.l.length := by rw [← HNS.out.1]; exact hjl
        obtain ⟨pb0, po, hpe, -, -⟩ := hpr.at (by rw [flat_len PtR.cells 4 (fun _ => rfl)]; omega)
        rw [hpe] at hpr
        obtain ⟨p0, p1, p2, p3⟩ := pt_ex hpr j hjl2
        rw [hpe]
        have hcap2 := (HPK.out _ (List.getElem_mem hjl2)).pieces.1.cap
        have HTJ : Hid (u.parts.l.take (j + 1) = u.parts.l.take j ++ [u.parts.l[j]]) := by unfold Hid; rw [List.take_add_one, List.getElem?_eq_getElem hjl2]; rfl
        generalize u.parts.l[j] = y at *
        obtain ⟨NQ, hNQ⟩ : ∃ NQ, NQ = y.pieces.l.length := ⟨_, rfl⟩
        have HNQ := hid hNQ
        rw [← hNQ] at p3 hcap2
        have hq2 : NQ ≤ 1000000000000 := by omega
        have hmn : min ((a2 : Int) + (NQ : Int)) 1048576 = ((min (a2 + NQ) 1048576 : Nat) : Int) := by omega
        have HRJ : Hid (min (a2 + NQ) 1048576 = min (unPcs (l.take k) + pcSum (u.parts.l.take (j + 1))) 1048576) := by
         unfold Hid
         rw [HTJ.out]
         have e : pcSum (u.parts.l.take j ++ [y]) = pcSum (u.parts.l.take j) + NQ := by rw [HNQ.out]; unfold pcSum; simp
         rw [e]
         have := HA2.out
         omega
        have HPE := hid hpe
        clear hby hpr hpe ha2' hNQ
        go_wp2_with fail
        exact ⟨⟨j + 1, by omega, by go_num, by rw [← HRJ.out], HBY.out.alloc HBY.out.size _, by rw [← HPE.out]; exact HPRY.out.alloc _⟩, by simp [intOf]; omega⟩
       ·have hje : j = NP := by omega
        subst hje
        have HRK : Hid (a2 = min (unPcs (l.take (k + 1))) 1048576) := by
         unfold Hid
         rw [HA2.out, HTK.out, show u.parts.l.take j = u.parts.l from List.take_of_length_le (by rw [HNS.out.1]; exact Nat.le_refl _)]
         have e : unPcs (l.take k ++ [u]) = unPcs (l.take k) + pcSum u.parts.l := by unfold unPcs; simp
         rw [e]
        have HFK : Hid (∀ x ∈ l.take (k + 1), x.parts.l.length ≤ 150 ∧ x.marks.l.length ≤ 300 ∧ x.globals.l.length ≤ 300) := by
         intro x hx
         rw [HTK.out] at hx
         rcases List.mem_append.1 hx with h1 | h1
         ·exact HFW.out x h1
         ·rw [List.mem_singleton.1 h1]
          have := HNS.out
          exact ⟨by omega, by omega, by omega⟩
        clear hby hpr ha2'
        go_wp2_with fail
        exact ⟨⟨k + 1, by omega, by go_num, by rw [← HRK.out], HFK.out, HBY.out⟩, by simp [intOf]; omega⟩
  ·have hke : k = M := by omega
   subst hke
   clear hfw hb ha
   by_cases b1 : (N : Int) ≤ 40
   ·have d1 : decide ((N : Int) ≤ 40) = true := by simpa using b1
    go_wp2_with fail
    refine bodyPost_ret (v := .bool (decide ((a : Int) ≤ 2000))) (by simp [results, Try.results15, go_sem]) rfl ?_
    refine ⟨⟨_, rfl, fun hb => ?_, HB.out⟩⟩
    have hkN : k = N := by have := HM.out; omega
    have hf := HFW.out
    have hA := HA.out
    rw [List.take_of_length_le (by rw [← HN.out]; omega)] at hf hA
    have h1 := few_cost l hf
    have h2 : (a : Int) ≤ 2000 := by simpa using hb
    rw [← HN.out] at h1
    have hN2 := HN.out
    exact ⟨by omega, by omega⟩
   ·have d1 : decide ((N : Int) ≤ 40) = false := by simpa using b1
    go_wp2_with fail
    refine bodyPost_ret (v := .bool false) (by simp [results, Try.results15, go_sem]) rfl ?_
    exact ⟨⟨false, rfl, by simp, HB.out⟩⟩
end Go.Proofs.Ythlingholhjcnaa
namespace Go.Proofs.Ythlingholhjcnaa
open Go.RowKit
variable {W W' w w' : World}
def fcost (S : FP) : Nat := (S.ps.map (fun p => 1 + p.pieces.length)).sum + S.ms.length + S.gs.length
theorem fcost_pl (u : UnR) : fcost u.pl = u.cost := by
 unfold fcost UnR.cost ptCost UnR.pl
 simp only [List.map_map]
 congr 2
 congr 1
 refine List.map_congr_left (fun y _ => ?_)
 simp [PtR.pl]
def pcost (l : List Pt) : Nat := (l.map (fun p => 1 + p.pieces.length)).sum
theorem pcost_modify : ∀ (l : List Pt) (i : Nat) (a : List Pc), pcost (l.modify i (appPcs a)) ≤ pcost l + a.length
 | [], i, a => by simp [pcost]
 | p :: l, 0, a => by rw [List.modify_zero_cons]; simp [pcost, appPcs]; omega
 | p :: l, i + 1, a => by have := pcost_modify l i a; rw [List.modify_succ_cons]; simp [pcost] at this ⊢; omega
theorem pcost_jp (S : FP) (p : Pt) : pcost (S.joinPart p).1.ps ≤ pcost S.ps + (1 + p.pieces.length) := by
 unfold FP.joinPart FP.part
 cases idxO (S.ps.map Pt.name) p.name with
 | some i => have := pcost_modify S.ps i p.pieces; dsimp only [FP.putAll]; omega
 | none =>
  have := pcost_modify (S.ps ++ [(⟨p.name, p.file, p.line, []⟩ : Pt)]) S.ps.length p.pieces
  have e : pcost (S.ps ++ [(⟨p.name, p.file, p.line, []⟩ : Pt)]) = pcost S.ps + 1 := by simp [pcost]
  dsimp only [FP.putAll]
  omega
theorem pcost_jps (l : List Pt) : ∀ s : FP × List Nat × List Nat, pcost (joinParts s l).1.ps ≤ pcost s.1.ps + pcost l := by
 induction l with
 | nil => intro s; exact Nat.le_add_right _ _
 | cons p l ih =>
  intro s
  have h1 := ih (jpStep s p)
  have h2 := pcost_jp s.1 p
  have e : pcost (p :: l) = (1 + p.pieces.length) + pcost l := by simp [pcost]
  show pcost (joinParts (jpStep s p) l).1.ps ≤ _
  have e2 : (jpStep s p).1.ps = (s.1.joinPart p).1.ps := rfl
  rw [e2] at h1
  omega
theorem fcost_ju (S U : FP) : fcost (S.joinUnit U) ≤ fcost S + fcost U := by
 have h := pcost_jps U.ps (S, [], [])
 have e : fcost (S.joinUnit U) = pcost (joinParts (S, [], []) U.ps).1.ps + (S.ms.length + U.ms.length) + (S.gs.length + U.gs.length) := by
  show pcost (joinParts (S, [], []) U.ps).1.ps + (S.ms ++ _).length + (S.gs ++ _).length = _
  rw [List.length_append, List.length_append, List.length_map]
 have e2 : fcost S = pcost S.ps + S.ms.length + S.gs.length := rfl
 have e3 : fcost U = pcost U.ps + U.ms.length + U.gs.length := rfl
 dsimp only at h
 omega
theorem fcost_fold (l : List FP) : ∀ S, fcost (l.foldl FP.joinUnit S) ≤ fcost S + (l.map fcost).sum := by
 induction l with
 | nil => intro S; simp
 | cons u l ih => intro S; have h1 := ih (S.joinUnit u); have h2 := fcost_ju S u; rw [List.foldl_cons]; simp; omega
theorem fcost_join (l : List UnR) : fcost (joinP (l.map UnR.pl)) ≤ unCost l := by
 have h := fcost_fold (l.map UnR.pl) FP.nil
 have e : ((l.map UnR.pl).map fcost).sum = unCost l := by
  unfold unCost
  rw [List.map_map]
  congr 1
  exact List.map_congr_left (fun u _ => fcost_pl u)
 rw [e] at h
 have : fcost FP.nil = 0 := rfl
 unfold joinP
 omega
theorem row_take {α : Type} {f : α → List Value} {k : Nat} (hk : ∀ x, (f x).length = k) {l : List α} {p : Option Addr} (h : Row W p (l.flatMap f)) (n : Nat) : Row W p ((l.take n).flatMap f) := by
 have e : l.flatMap f = (l.take n).flatMap f ++ (l.drop n).flatMap f := by rw [← List.flatMap_append, List.take_append_drop]
 intro hne
 obtain ⟨b, o, rfl, hc⟩ := h (by rw [e]; intro h0; exact hne (List.append_eq_nil_iff.1 h0).1)
 refine ⟨b, o, rfl, fun i hi => ?_⟩
 rw [hc i (by rw [e, List.length_append]; omega)]
 simp only [e]
 rw [List.getElem_append_left hi]
theorem row_drop {α : Type} {f : α → List Value} {k : Nat} (hk : ∀ x, (f x).length = k) {l : List α} {b o : Nat} (h : Row W (some ⟨b, o, none⟩) (l.flatMap f)) (n : Nat) (hn : n ≤ l.length) : Row W (some ⟨b, o + n * k, none⟩) ((l.drop n).flatMap f) := by
 have e : l.flatMap f = (l.take n).flatMap f ++ (l.drop n).flatMap f := by rw [← List.flatMap_append, List.take_append_drop]
 have hl : ((l.take n).flatMap f).length = n * k := by rw [flat_len f k hk, List.length_take, Nat.min_eq_left hn, Nat.mul_comm]
 intro hne
 refine ⟨b, o + n * k, rfl, fun i hi => ?_⟩
 have h1 : n * k + i < (l.flatMap f).length := by rw [e, List.length_append, hl]; omega
 have := h.cell (n * k + i) h1
 rw [show o + n * k + i = o + (n * k + i) by omega, this]
 simp only [e]
 rw [List.getElem_append_right (by omega)]
 simp only [hl]
 congr 2
 omega
theorem own_nil {base : Nat} {e : TypeId} {size n m c : Nat} {p : Option Addr} {xs : List Value} (h : w.ownsRow base e size (.slice p m c) n xs) : p = none → c = 0 := by
 rintro rfl
 rcases h.2 with ⟨e1, _⟩ | ⟨g, cap, cur, e1, _⟩
 ·injection e1
 ·injection e1 with e2; cases e2
structure JX (w : World) (S : FP) (n : Nat) (u : UnR) : Prop where
 uin : UnIn w u
 pl : u.pl = S
 cost : u.cost ≤ n
 rd : ∃ X : FV, X.pv = u.parts.val ∧ X.mv = u.marks.val ∧ X.gv = u.globals.val ∧ UnRd w X ∧ X.pl = S
theorem JX.below {S : FP} {n : Nat} {u : UnR} (h : JX w S n u) (hb : Below w.heap.size w w') : JX w' S n u := by
 obtain ⟨X, e1, e2, e3, hr, hp⟩ := h.rd
 exact ⟨h.uin.below hb, h.pl, h.cost, X, e1, e2, e3, hr.below hb, hp⟩
def JoinR (W : World) (S : FP) (n : Nat) (e : Ending) (w' : World) : Prop := ∃ u : UnR, e = .returned (.agg #[.slice u.parts.p u.parts.l.length u.parts.c, .slice u.marks.p u.marks.l.length u.marks.c, .slice u.globals.p u.globals.l.length u.globals.c]) ∧ JX w' S n u ∧ Below W.heap.size W w'
theorem joinR_any (p : Option Addr) (c : Nat) (l : List UnR) (W : World) (hrow : Row W p (l.flatMap UnR.cells)) (hin : ∀ u ∈ l, UnIn W u) (hlen : l.length ≤ 1000000) (hcost : unCost l ≤ 2000000) :
  Calls Try.prog 16 #[.slice p l.length c] W (JoinR W (joinP (l.map UnR.pl)) (unCost l)) := by
 refine (join_any p c l W hrow hin hlen hcost).mono ?_
 rintro e w' ⟨⟨X, rfl, hF, hp, hs, hfv⟩, hb⟩
 obtain ⟨p0, c0, e0, -⟩ := own_shape hF.parts
 obtain ⟨p1, c1, e1, -⟩ := own_shape hF.marks
 obtain ⟨p2, c2, e2, -⟩ := own_shape hF.globals
 have hg := hF.globals
 rw [e2] at hg
 have hrd := hF.rd hs (by omega)
 have hu := hrd.uin e0 e1 e2 (own_nil hg)
 have hfs : X.fs = [] := by
  have h1 := congrArg FP.fs hp
  rw [(wf_join _).fs] at h1
  exact h1
 have hpl : UnR.pl ⟨⟨p0, c0, X.ps⟩, ⟨p1, c1, X.ms⟩, ⟨p2, c2, X.gs⟩⟩ = joinP (l.map UnR.pl) := by
  rw [← hp]
  unfold UnR.pl FV.pl
  rw [hfs]
 refine ⟨⟨⟨p0, c0, X.ps⟩, ⟨p1, c1, X.ms⟩, ⟨p2, c2, X.gs⟩⟩, by rw [e0, e1, e2], ⟨hu, hpl, ?_, X, e0, e1, e2, hrd, hp⟩, hb⟩
 rw [← fcost_pl, hpl]
 exact fcost_join l
theorem JX.same {S : FP} {n m : Nat} {u v : UnR} (h1 : JX w S n u) (h2 : JX w S m v) : Calls Try.prog 13 #[.agg #[.slice u.parts.p u.parts.l.length u.parts.c, .slice u.marks.p u.marks.l.length u.marks.c, .slice u.globals.p u.globals.l.length u.globals.c], .agg #[.slice v.parts.p v.parts.l.length v.parts.c, .slice v.marks.p v.marks.l.length v.marks.c, .slice v.globals.p v.globals.l.length v.globals.c]] w fun e w' => e = .returned (.bool true) ∧ Below w.heap.size w w' := by
 obtain ⟨X, a1, a2, a3, hr, hp⟩ := h1.rd
 obtain ⟨Y, b1, b2, b3, kr, kp⟩ := h2.rd
 have := same_rd hr kr (hp.trans kp.symm)
 rw [a1, a2, a3, b1, b2, b3] at this
 exact this
end Go.Proofs.Ythlingholhjcnaa
