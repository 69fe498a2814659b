/-
 FragGroups: the law's walk.
 The document's Join as its callers see it; Faults of a unit that is small.
 FragJoins: the law's walk.
-/
import Derived.Test.YthlingholhjcnaaJJ18
import Derived.Test.YthlingholhjcnaaJJ15
import Derived.Test.YthlingholhjcnaaJJ8
namespace Go.Proofs.Ythlingholhjcnaa
open Go.RowKit
variable {W W' w w' : World}
theorem uok_uin {l : List UnR} (hok : ∀ u ∈ l, u.ok W) (hc : unCost l ≤ 40000) : ∀ u ∈ l, UnIn W u := fun u hu => (hok u hu).uin (by
 obtain ⟨i, hi, rfl⟩ := List.getElem_of_mem hu
 have e1 := sum_take UnR.cost l i hi
 have e2 := sum_le UnR.cost l (i + 1)
 unfold unCost at hc
 omega)
theorem unCost_take (l : List UnR) (k : Nat) : unCost (l.take k) ≤ unCost l := sum_le _ l k
theorem unCost_drop (l : List UnR) (k : Nat) : unCost (l.drop k) ≤ unCost l := by
 have h : unCost l = unCost (l.take k) + unCost (l.drop k) := by
  unfold unCost
  rw [← List.sum_append, ← List.map_append, List.take_append_drop]
 omega
structure GJ (W : World) (p : Option Addr) (c : Nat) (l : List UnR) (k : Nat) (p2 : Option Addr) (c2 : Nat) : Prop where
 all : ∀ w, Below W.heap.size W w → Calls Try.prog 16 #[.slice p l.length c] w (JoinR w (joinP (l.map UnR.pl)) 40000)
 a : ∀ w, Below W.heap.size W w → Calls Try.prog 16 #[.slice p k c] w (JoinR w (joinP ((l.take k).map UnR.pl)) 40000)
 b : ∀ w, Below W.heap.size W w → Calls Try.prog 16 #[.slice p2 (l.length - k) c2] w (JoinR w (joinP ((l.drop k).map UnR.pl)) 40000)
theorem JoinR.mono {S : FP} {n m : Nat} {e : Ending} (h : JoinR W S n e w') (hm : n ≤ m) : JoinR W S m e w' := by
 obtain ⟨u, h1, h2, h3⟩ := h
 exact ⟨u, h1, ⟨h2.uin, h2.pl, Nat.le_trans h2.cost hm, h2.rd⟩, h3⟩
theorem gj (p : Option Addr) (c : Nat) (l : List UnR) (W : World) (hrow : Row W p (l.flatMap UnR.cells)) (hok : ∀ u ∈ l, u.ok W) (hc : unCost l ≤ 40000) (hl : l.length ≤ 40) (k : Nat) (hk : k ≤ l.length) (p2 : Option Addr) (c2 : Nat) (hp2 : k < l.length → ∀ b o, p = some ⟨b, o, none⟩ → p2 = some ⟨b, o + k * 3, none⟩) : GJ W p c l k p2 c2 := by
 have hin := uok_uin hok hc
 refine ⟨fun w hb => ?_, fun w hb => ?_, fun w hb => ?_⟩
 ·exact (joinR_any p c l w (hrow.below hb) (fun u hu => (hin u hu).below hb) (by omega) (by omega)).mono fun e w' h => h.mono hc
 ·have h1 := unCost_take l k
  have := joinR_any p c (l.take k) w ((row_take (f := UnR.cells) (k := 3) (fun _ => rfl) hrow k).below hb) (fun u hu => (hin u (List.mem_of_mem_take hu)).below hb) (by rw [List.length_take]; omega) (by omega)
  rw [List.length_take, Nat.min_eq_left hk] at this
  exact this.mono fun e w' h => h.mono (by omega)
 ·have h1 := unCost_drop l k
  have hr : Row W p2 ((l.drop k).flatMap UnR.cells) := by
   by_cases hd : l.drop k = []
   ·rw [hd]; exact Row.nil _ _
   ·have hll : 0 < l.length := by
     apply Nat.pos_of_ne_zero
     intro h0
     exact hd (by rw [List.length_eq_zero_iff.1 h0]; simp)
    obtain ⟨b, o, rfl, -, -⟩ := hrow.at (by rw [flat_len UnR.cells 3 (fun _ => rfl)]; omega)
    have hlt : k < l.length := by
     apply Nat.lt_of_not_le
     intro h
     exact hd (List.drop_eq_nil_of_le h)
    rw [hp2 hlt b o rfl]
    exact row_drop (f := UnR.cells) (k := 3) (fun _ => rfl) hrow k hk
  have := joinR_any p2 c2 (l.drop k) w (hr.below hb) (fun u hu => (hin u (List.mem_of_mem_drop hu)).below hb) (by rw [List.length_drop]; omega) (by omega)
  rw [List.length_drop] at this
  exact this.mono fun e w' h => h.mono (by omega)
def UBx (ab : Nat) (u : UnR) (w : World) : Prop := w.heap[ab]? = some (.cells #[.slice u.parts.p u.parts.l.length u.parts.c, .slice u.marks.p u.marks.l.length u.marks.c, .slice u.globals.p u.globals.l.length u.globals.c] 32 (0, 0))
theorem UBx.below {ab : Nat} {u : UnR} (h : UBx ab u w) (hb : Below w.heap.size w w') : UBx ab u w' := (hb.block _ (Array.getElem?_eq_some_iff.1 h).1).trans h
theorem ubx_new (w : World) (u : UnR) : UBx w.heap.size u (w.alloc (.cells #[.slice u.parts.p u.parts.l.length u.parts.c, .slice u.marks.p u.marks.l.length u.marks.c, .slice u.globals.p u.globals.l.length u.globals.c] 32)) := heap_alloc_new _ _
end Go.Proofs.Ythlingholhjcnaa
namespace Go.Proofs.Ythlingholhjcnaa
open Go.RowKit
variable {W W' w w' : World}
theorem rjoinR_any (p : Option Addr) (c : Nat) (l : List UnR) (W : World) (hrow : Row W p (l.flatMap UnR.cells)) (hin : ∀ u ∈ l, UnIn W u) (hlen : l.length ≤ 1000000) (hcost : unCost l ≤ 2000000) :
  Calls Try.prog 19 #[.slice p l.length c] W (JoinR W (joinP (l.map UnR.pl)) (unCost l)) := by
 refine (rjoin_any p c l W hrow hin hlen hcost).mono ?_
 rintro e w' ⟨⟨X, rfl, hF, hp, hs, hfv⟩, hb⟩
 obtain ⟨p0, c0, e0, -⟩ := own_shape hF.parts
 obtain ⟨p1, c1, e1, -⟩ := own_shape hF.marks
 obtain ⟨p2, c2, e2, -⟩ := own_shape hF.globals
 have hg := hF.globals
 rw [e2] at hg
 have hrd := hF.rd hs (by omega)
 have hu := hrd.uin e0 e1 e2 (own_nil hg)
 have hfs : X.fs = [] := by
  have h1 := congrArg FP.fs hp
  rw [(wf_join _).fs] at h1
  exact h1
 have hpl : UnR.pl ⟨⟨p0, c0, X.ps⟩, ⟨p1, c1, X.ms⟩, ⟨p2, c2, X.gs⟩⟩ = joinP (l.map UnR.pl) := by
  rw [← hp]
  unfold UnR.pl FV.pl
  rw [hfs]
 refine ⟨⟨⟨p0, c0, X.ps⟩, ⟨p1, c1, X.ms⟩, ⟨p2, c2, X.gs⟩⟩, by rw [e0, e1, e2], ⟨hu, hpl, ?_, X, e0, e1, e2, hrd, hp⟩, hb⟩
 rw [← fcost_pl, hpl]
 exact fcost_join l
def FaN (W : World) (L : List Ft) (N : Nat) (e : Ending) (w' : World) : Prop := ∃ p c, e = .returned (.slice p N c) ∧ Row w' p (L.flatMap Ft.cells) ∧ Below W.heap.size W w'
theorem fa_two (u : UnR) (hu : UnIn W u) (hc : u.cost ≤ 40000) : ∃ (L : List Ft) (N : Nat), N = L.length ∧ N ≤ 100000 ∧
  (∀ w, Below W.heap.size W w → Calls Try.prog 20 #[.agg #[.slice u.parts.p u.parts.l.length u.parts.c, .slice u.marks.p u.marks.l.length u.marks.c, .slice u.globals.p u.globals.l.length u.globals.c]] w (FaN w L N)) ∧
  ∀ w, Below W.heap.size W w → Calls Try.prog 21 #[.agg #[.slice u.parts.p u.parts.l.length u.parts.c, .slice u.marks.p u.marks.l.length u.marks.c, .slice u.globals.p u.globals.l.length u.globals.c]] w (FaN w L N) := by
 have h1 : u.cost = ptCost u.parts.l + u.marks.l.length + u.globals.l.length := rfl
 have h2 : u.parts.l.length ≤ ptCost u.parts.l := by
  have : ∀ l : List PtR, l.length ≤ ptCost l := fun l => by
   induction l with
   | nil => exact Nat.zero_le _
   | cons y l ih => unfold ptCost at *; simp only [List.map_cons, List.sum_cons, List.length_cons]; omega
  exact this _
 have hd := dupsR_len u.marks.l u.marks.l.length
 have hl := longR_len u.parts.l (dupsR u.marks.l u.marks.l.length) (u.parts.l.length - 64)
 refine ⟨longR u.parts.l (dupsR u.marks.l u.marks.l.length) (u.parts.l.length - 64), (longR u.parts.l (dupsR u.marks.l u.marks.l.length) (u.parts.l.length - 64)).length, rfl, ?_, fun w hb => (cfaults_any _ _ _ _ _ _ _ u.parts.l u.marks.l w (hu.pr.below hb) (hu.mr.below hb) (by omega) (by omega)).mono ?_, fun w hb => (rfaults_any _ _ _ _ _ _ _ u.parts.l u.marks.l w (hu.pr.below hb) (hu.mr.below hb) (by omega) (by omega)).mono ?_⟩
 ·omega
 ·rintro e w' ⟨⟨p, c, rfl, hr⟩, hb⟩; exact ⟨p, c, rfl, hr, hb⟩
 ·rintro e w' ⟨⟨p, c, rfl, hr⟩, hb⟩; exact ⟨p, c, rfl, hr, hb⟩
end Go.Proofs.Ythlingholhjcnaa
namespace Go.Proofs.Ythlingholhjcnaa
open Go.RowKit
variable {W W' w w' : World}
set_option maxRecDepth 40000 in
set_option maxHeartbeats 4000000 in
theorem joins_walk (W : World) (ls : Sl UnR) (hls : SlOk W UnR.cells 72 ls) (hok : ∀ u ∈ ls.l, u.ok W) (u : UnR) (hu : u.ok W) :
  Calls Try.prog 6 #[.slice ls.p ls.l.length ls.c, .agg u.cells.toArray] W fun e w' => e = .returned (.bool true) ∧ Below W.heap.size W w' := by
 obtain ⟨p, c, l⟩ := ls
 dsimp only at *
 show Calls Try.prog 6 #[.slice p l.length c, .agg #[.slice u.parts.p u.parts.l.length u.parts.c, .slice u.marks.p u.marks.l.length u.marks.c, .slice u.globals.p u.globals.l.length u.globals.c]] W _
 have hlc := hls.len
 have hcap := hls.cap
 dsimp only at hlc hcap
 have HBG := hid begun_any
 have HFEW : Hid (∀ w, Below W.heap.size W w → Calls Try.prog 15 #[.slice p l.length c] w (FewT l w)) := fun w hb => fewU_any p c l w (hls.row.below hb) (fun u hu => (hok u hu).below hb) hlc (by omega)
 have HFU : Hid (∀ (w : World) b, Below W.heap.size W w → UBx b u w → Calls Try.prog 15 #[.slice (some ⟨b, 0, none⟩) 1 1] w (FewT [u] w)) := fun w b hb hx => by
  have := fewU_any (some ⟨b, 0, none⟩) 1 [u] w (row_blkAt (xs := u.cells) hx |> fun h => by simpa using h) (fun v hv => by rw [List.mem_singleton.1 hv]; exact hu.below hb) (by simp) (by simp)
  exact this
 have HROW := hid hls.row
 have HOK := hid hok
 have HU := hid hu
 obtain ⟨n, hn⟩ : ∃ n, n = l.length := ⟨_, rfl⟩
 have HN := hid hn
 rw [← hn] at HFEW hlc ⊢
 obtain ⟨W1, hW1⟩ : ∃ W1, W1 = W.alloc (.cells #[.slice u.parts.p u.parts.l.length u.parts.c, .slice u.marks.p u.marks.l.length u.marks.c, .slice u.globals.p u.globals.l.length u.globals.c] 32) := ⟨_, rfl⟩
 have HB1 : Hid (Below W.heap.size W W1) := by rw [hW1]; exact alloc_below _ _
 have HX1 : Hid (UBx W.heap.size u W1) := by rw [hW1]; exact ubx_new _ _
 have HW1 := hid hW1
 have k0 : ∀ w : World, UBx W.heap.size u w → w.cell? ⟨W.heap.size, 0, none⟩ = some (.slice u.parts.p u.parts.l.length u.parts.c) := fun w h => (un_cells h).1
 have k1 : ∀ w : World, UBx W.heap.size u w → w.cell? ⟨W.heap.size, 1, none⟩ = some (.slice u.marks.p u.marks.l.length u.marks.c) := fun w h => (un_cells h).2.1
 have k2 : ∀ w : World, UBx W.heap.size u w → w.cell? ⟨W.heap.size, 2, none⟩ = some (.slice u.globals.p u.globals.l.length u.globals.c) := fun w h => (un_cells h).2.2
 obtain ⟨pn, hpn⟩ : ∃ n, n = u.parts.l.length := ⟨_, rfl⟩
 obtain ⟨mn, hmn⟩ : ∃ n, n = u.marks.l.length := ⟨_, rfl⟩
 obtain ⟨gn, hgn⟩ : ∃ n, n = u.globals.l.length := ⟨_, rfl⟩
 have HPM := hid (And.intro hpn (And.intro hmn hgn))
 rw [← hpn] at k0 HW1 ⊢
 rw [← hmn] at k1 HW1 ⊢
 rw [← hgn] at k2 HW1 ⊢
 clear hls hok hn hcap hu hW1 hpn hmn hgn
 go_enter Try.func6, Try.ntmps6
 go_upto_region 1 with (fail)
 rw [← HW1.out]
 go_wp2_with (fail)
 go_at_call 7
 (with_reducible refine (HBG.out _).mono ?_)
 rintro e w2 ⟨rfl, hb2⟩
 have HX2 := hid (HX1.out.below hb2)
 have HB2 := hid (HB1.out.trans (hb2.mono HB1.out.size))
 clear hb2
 go_wp2_with (fail)
 refine (HFEW.out w2 HB2.out).mono ?_
 rintro e w3 ⟨⟨bb, rfl, hbb, hb3⟩⟩
 have HX3 := hid (HX2.out.below hb3)
 have HB3 := hid (HB2.out.trans (hb3.mono HB2.out.size))
 clear hb3
 dsimp only
 cases bb with
 | false =>
  go_wp2_with (go_at_call 7; go_loud ((with_reducible refine (HBG.out _).mono ?_); rintro e w4 ⟨rfl, hb4⟩; have HB4 := hid (HB3.out.trans (hb4.mono HB3.out.size)); clear hb4))
  go_ret
  exact ⟨rfl, HB4.out⟩
 | true =>
  obtain ⟨hl40, hc4⟩ := hbb rfl
  have c0 := k0 _ HX3.out
  have c1 := k1 _ HX3.out
  have c2 := k2 _ HX3.out
  obtain ⟨W4, hW4⟩ : ∃ W4, W4 = w3.alloc (.cells #[.slice u.parts.p pn u.parts.c, .slice u.marks.p mn u.marks.c, .slice u.globals.p gn u.globals.c] 32) := ⟨_, rfl⟩
  have HW4 := hid hW4
  have hb4 : Below w3.heap.size w3 W4 := by rw [hW4]; exact alloc_below _ _
  have HX4 := hid (HX3.out.below hb4)
  have HY4 : Hid (UBx w3.heap.size u W4) := by rw [hW4, HPM.out.1, HPM.out.2.1, HPM.out.2.2]; exact ubx_new _ _
  have HB4 := hid (HB3.out.trans (hb4.mono HB3.out.size))
  have HLC := hid (And.intro hl40 hc4)
  clear hb4 hW4 hbb hl40 hc4
  go_wp2_with (fail)
  rw [← HW4.out]
  refine (HFU.out W4 _ HB4.out HY4.out).mono ?_
  rintro e w5 ⟨⟨bb, rfl, hbb, hb5⟩⟩
  have HX5 := hid (HX4.out.below hb5)
  have HB5 := hid (HB4.out.trans (hb5.mono HB4.out.size))
  clear hb5 c0 c1 c2
  dsimp only
  cases bb with
  | false =>
   go_wp2_with (go_at_call 7; go_loud ((with_reducible refine (HBG.out _).mono ?_); rintro e w6 ⟨rfl, hb6⟩; have HB6 := hid (HB5.out.trans (hb6.mono HB5.out.size)); clear hb6))
   go_ret
   exact ⟨rfl, HB6.out⟩
  | true =>
   obtain ⟨-, hc5⟩ := hbb rfl
   have hcu : u.cost ≤ 40000 := by simpa [unCost] using hc5
   have hin := uok_uin HOK.out HLC.out.2
   have HJC : Hid (∀ w, Below W.heap.size W w → Calls Try.prog 16 #[.slice p n c] w (JoinR w (joinP (l.map UnR.pl)) 40000)) := fun w hb => by
    rw [HN.out]
    exact (joinR_any p c l w (HROW.out.below hb) (fun u hu => (hin u hu).below hb) (by have := HLC.out.1; omega) (by have := HLC.out.2; omega)).mono fun e w' h => h.mono HLC.out.2
   have HJR : Hid (∀ w, Below W.heap.size W w → Calls Try.prog 19 #[.slice p n c] w (JoinR w (joinP (l.map UnR.pl)) 40000)) := fun w hb => by
    rw [HN.out]
    exact (rjoinR_any p c l w (HROW.out.below hb) (fun u hu => (hin u hu).below hb) (by have := HLC.out.1; omega) (by have := HLC.out.2; omega)).mono fun e w' h => h.mono HLC.out.2
   obtain ⟨LL, NL, hNL, hNb, hf1, hf2⟩ := fa_two u (HU.out.uin (by omega)) hcu
   rw [← HPM.out.1, ← HPM.out.2.1, ← HPM.out.2.2] at hf1 hf2
   have HF1 := hid hf1
   have HF2 := hid hf2
   have HEQ : Hid (∀ (pa pb : Option Addr) (ca cb : Nat) (w : World), Row w pa (LL.flatMap Ft.cells) → Row w pb (LL.flatMap Ft.cells) → Calls Try.prog 14 #[.slice pa NL ca, .slice pb NL cb] w fun e w' => e = .returned (.bool true) ∧ Below w.heap.size w w') := fun pa pb ca cb w h1 h2 => by
    rw [hNL]
    exact equalF_any pa pb ca cb LL h1 h2 (by omega)
   clear hf1 hf2 hin hcu hc5 hbb hNL
   go_upto_region 3 with (fail)
   obtain ⟨wd, hwd⟩ : ∃ wd, wd = w5.drew := ⟨_, rfl⟩
   have HBD : Hid (Below W.heap.size W wd) := by rw [hwd]; exact HB5.out.drew
   have HSS : Hid (UBx W.heap.size u wd) := by rw [hwd]; exact HX5.out
   refine wp_region_held_drew (S := UBx W.heap.size u) (by kernel_rfl) (by rw [← hwd]; exact HSS.out) (fun hHeld => ?_)
   rw [← hwd] at *
   refine wpAnyH_take (i := 0) (oi := { dst := some 19, op := Op.move (Operand.tmp 0), type := 44, pos := "law.go:90", after := #[], guard := none }) (v := ?pav0) rfl (by kernel_rfl) (by kernel_rfl) (by kernel_rfl) (fun _ _ _ h => h) (Or.inl ⟨by rfl, ?pah0⟩) (by assumption) ?par0
   case pah0 => ((intro w hSw; (try dsimp only at hSw); go_simp); try with_reducible rfl)
   try simp only [Act.put, List.setIfInBounds_toArray, List.set_cons_zero, List.set_cons_succ]
   refine wpAnyH_take (i := 2) (oi := { dst := some 21, op := Op.move (Operand.tmp 0), type := 44, pos := "law.go:90", after := #[], guard := none }) (v := ?pav2) rfl (by kernel_rfl) (by kernel_rfl) (by kernel_rfl) (fun _ _ _ h => h) (Or.inl ⟨by rfl, ?pah2⟩) (by assumption) ?par2
   case pah2 => ((intro w hSw; (try dsimp only at hSw); go_simp); try with_reducible rfl)
   try simp only [Act.put, List.setIfInBounds_toArray, List.set_cons_zero, List.set_cons_succ]
   refine wpAnyH_ready (rs := [1]) (by kernel_rfl) (by simp) ?_
   refine AllReadyH.cons (o := { dst := some 20, op := Op.call { callee := Callee.value (Operand.func 16), args := #[Operand.tmp 19], argTypes := #[44] }, type := 32, pos := "law.go:90", after := #[{ on := 0, ground := Ground.data }], guard := none }) rfl (fun K hK => ?_) AllReadyH.nil
   go_simp; go_at_call 16; (with_reducible refine (HJC.out wd HBD.out).mono ?_); rintro e1 wa ⟨ua, rfl, hua, hba⟩; have HUA := hid hua; have HSA := hid (UBx.below hHeld hba); have HBA := hid (HBD.out.trans (hba.mono HBD.out.size)); clear hua hba; refine hK.out _ _ HSA.out (fun hHeld => ?_)
   clear hK K
   try simp only [Act.put, List.setIfInBounds_toArray, List.set_cons_zero, List.set_cons_succ]
   refine wpAnyH_ready (rs := [3]) (by kernel_rfl) (by simp) ?_
   refine AllReadyH.cons (o := { dst := some 22, op := Op.call { callee := Callee.value (Operand.func 19), args := #[Operand.tmp 21], argTypes := #[44] }, type := 32, pos := "law.go:90", after := #[{ on := 2, ground := Ground.data }, { on := 1, ground := Ground.chain }], guard := none }) rfl (fun K hK => ?_) AllReadyH.nil
   go_simp; go_at_call 19; (with_reducible refine (HJR.out wa HBA.out).mono ?_); rintro e1 wb ⟨ub, rfl, hub, hbb⟩; have HUB := hid hub; have HUA2 := hid (HUA.out.below hbb); have HSB := hid (UBx.below HSA.out hbb); have HBB := hid (HBA.out.trans (hbb.mono HBA.out.size)); clear hub hbb; refine hK.out _ _ HSB.out (fun hHeld => ?_)
   clear hK K
   try simp only [Act.put, List.setIfInBounds_toArray, List.set_cons_zero, List.set_cons_succ]
   refine wpAnyH_ready (rs := [4]) (by kernel_rfl) (by simp) ?_
   refine AllReadyH.cons (o := { dst := some 23, op := Op.call { callee := Callee.value (Operand.func 13), args := #[Operand.tmp 20, Operand.tmp 22], argTypes := #[32, 32] }, type := 4, pos := "law.go:90", after := #[{ on := 1, ground := Ground.data }, { on := 3, ground := Ground.data }, { on := 3, ground := Ground.chain }], guard := none }) rfl (fun K hK => ?_) AllReadyH.nil
   go_simp; go_at_call 13; (with_reducible refine (HUA2.out.same HUB.out).mono ?_); rintro e1 wk ⟨rfl, hbk⟩; have HSK := hid (UBx.below HSB.out hbk); have HBK := hid (HBB.out.trans (hbk.mono HBB.out.size)); clear hbk; refine hK.out _ _ HSK.out (fun hHeld => ?_)
   clear hK K
   try simp only [Act.put, List.setIfInBounds_toArray, List.set_cons_zero, List.set_cons_succ]
   refine wpAnyH_take (i := 5) (oi := { dst := some 24, op := Op.move (Operand.tmp 23), type := 4, pos := "law.go:90", after := #[{ on := 4, ground := Ground.data }, { on := 4, ground := Ground.chain }], guard := none }) (v := ?pav5) rfl (by kernel_rfl) (by kernel_rfl) (by kernel_rfl) (fun _ _ _ h => h) (Or.inl ⟨by rfl, ?pah5⟩) (by assumption) ?par5
   case pah5 => ((intro w hSw; (try dsimp only at hSw); go_simp); try with_reducible rfl)
   try simp only [Act.put, List.setIfInBounds_toArray, List.set_cons_zero, List.set_cons_succ]
   refine wpAnyH_take (i := 6) (oi := { dst := some 25, op := Op.load 32 (Operand.tmp 3), type := 32, pos := "law.go:90", after := #[{ on := 5, ground := Ground.guard }], guard := some (5, true) }) (v := ?pav6) rfl (by kernel_rfl) (by kernel_rfl) (by kernel_rfl) (fun _ _ _ h => h) (Or.inl ⟨by rfl, ?pah6⟩) (by assumption) ?par6
   case pah6 => ((intro w hSw; (try dsimp only at hSw); go_simp); try with_reducible rfl)
   try simp only [Act.put, List.setIfInBounds_toArray, List.set_cons_zero, List.set_cons_succ]
   refine wpAnyH_take (i := 8) (oi := { dst := some 27, op := Op.load 32 (Operand.tmp 3), type := 32, pos := "law.go:90", after := #[{ on := 5, ground := Ground.guard }], guard := some (5, true) }) (v := ?pav8) rfl (by kernel_rfl) (by kernel_rfl) (by kernel_rfl) (fun _ _ _ h => h) (Or.inl ⟨by rfl, ?pah8⟩) (by assumption) ?par8
   case pah8 => ((intro w hSw; (try dsimp only at hSw); go_simp); try with_reducible rfl)
   try simp only [Act.put, List.setIfInBounds_toArray, List.set_cons_zero, List.set_cons_succ]
   refine wpAnyH_ready (rs := [7]) (by kernel_rfl) (by simp) ?_
   refine AllReadyH.cons (o := { dst := some 26, op := Op.call { callee := Callee.value (Operand.func 20), args := #[Operand.tmp 25], argTypes := #[32] }, type := 33, pos := "law.go:90", after := #[{ on := 6, ground := Ground.data }, { on := 5, ground := Ground.chain }, { on := 5, ground := Ground.guard }], guard := some (5, true) }) rfl (fun K hK => ?_) AllReadyH.nil
   go_simp; go_at_call 20; (with_reducible refine (HF1.out wk HBK.out).mono ?_); rintro e1 wf ⟨pf, cf, rfl, hrf, hbf⟩; have HRF := hid hrf; have HSF := hid (UBx.below HSK.out hbf); have HBF := hid (HBK.out.trans (hbf.mono HBK.out.size)); clear hrf hbf; refine hK.out _ _ HSF.out (fun hHeld => ?_)
   clear hK K
   try simp only [Act.put, List.setIfInBounds_toArray, List.set_cons_zero, List.set_cons_succ]
   refine wpAnyH_ready (rs := [9]) (by kernel_rfl) (by simp) ?_
   refine AllReadyH.cons (o := { dst := some 28, op := Op.call { callee := Callee.value (Operand.func 21), args := #[Operand.tmp 27], argTypes := #[32] }, type := 33, pos := "law.go:90", after := #[{ on := 8, ground := Ground.data }, { on := 7, ground := Ground.chain }, { on := 5, ground := Ground.guard }], guard := some (5, true) }) rfl (fun K hK => ?_) AllReadyH.nil
   go_simp; go_at_call 21; (with_reducible refine (HF2.out wf HBF.out).mono ?_); rintro e1 wg ⟨pg, cg, rfl, hrg, hbg⟩; have HRG := hid hrg; have HRF2 := hid (HRF.out.below hbg); have HSG := hid (UBx.below HSF.out hbg); have HBG2 := hid (HBF.out.trans (hbg.mono HBF.out.size)); clear hrg hbg; refine hK.out _ _ HSG.out (fun hHeld => ?_)
   clear hK K
   try simp only [Act.put, List.setIfInBounds_toArray, List.set_cons_zero, List.set_cons_succ]
   refine wpAnyH_ready (rs := [10]) (by kernel_rfl) (by simp) ?_
   refine AllReadyH.cons (o := { dst := some 29, op := Op.call { callee := Callee.value (Operand.func 14), args := #[Operand.tmp 26, Operand.tmp 28], argTypes := #[33, 33] }, type := 4, pos := "law.go:90", after := #[{ on := 7, ground := Ground.data }, { on := 9, ground := Ground.data }, { on := 9, ground := Ground.chain }, { on := 5, ground := Ground.guard }], guard := some (5, true) }) rfl (fun K hK => ?_) AllReadyH.nil
   go_simp; go_at_call 14; (with_reducible refine (HEQ.out _ _ _ _ _ HRF2.out HRG.out).mono ?_); rintro e1 wh ⟨rfl, hbh⟩; have HSH := hid (UBx.below HSG.out hbh); have HBH := hid (HBG2.out.trans (hbh.mono HBG2.out.size)); clear hbh; refine hK.out _ _ HSH.out (fun hHeld => ?_)
   clear hK K
   try simp only [Act.put, List.setIfInBounds_toArray, List.set_cons_zero, List.set_cons_succ]
   refine wpAnyH_take (i := 11) (oi := { dst := some 30, op := Op.pick (Operand.tmp 24) (Operand.tmp 29) (Operand.const (Value.bool false)), type := 4, pos := "law.go:90", after := #[{ on := 5, ground := Ground.data }, { on := 10, ground := Ground.data }], guard := none }) (v := ?pav11) rfl (by kernel_rfl) (by kernel_rfl) (by kernel_rfl) (fun _ _ _ h => h) (Or.inl ⟨by rfl, ?pah11⟩) (by assumption) ?par11
   case pah11 => ((intro w hSw; (try dsimp only at hSw); go_simp); try with_reducible rfl)
   try simp only [Act.put, List.setIfInBounds_toArray, List.set_cons_zero, List.set_cons_succ]
   refine wpAnyH_take (i := 12) (oi := { dst := some 4, op := Op.assign (Operand.tmp 30), type := 4, pos := "law.go:90", after := #[{ on := 11, ground := Ground.data }, { on := 10, ground := Ground.chain }, { on := 0, ground := Ground.phase }, { on := 1, ground := Ground.phase }, { on := 2, ground := Ground.phase }, { on := 3, ground := Ground.phase }, { on := 4, ground := Ground.phase }, { on := 5, ground := Ground.phase }, { on := 6, ground := Ground.phase }, { on := 7, ground := Ground.phase }, { on := 8, ground := Ground.phase }, { on := 9, ground := Ground.phase }, { on := 10, ground := Ground.phase }, { on := 11, ground := Ground.phase }], guard := none }) (v := ?pav12) rfl (by kernel_rfl) (by kernel_rfl) (by kernel_rfl) (fun _ _ _ h => h) (Or.inl ⟨by rfl, ?pah12⟩) (by assumption) ?par12
   case pah12 => ((intro w hSw; (try dsimp only at hSw); go_simp); try with_reducible rfl)
   try simp only [Act.put, List.setIfInBounds_toArray, List.set_cons_zero, List.set_cons_succ]
   refine wpAnyH_done (by kernel_rfl) ?_ _
   go_wp2_with fail
   go_ret
   exact ⟨rfl, HBH.out⟩
end Go.Proofs.Ythlingholhjcnaa
