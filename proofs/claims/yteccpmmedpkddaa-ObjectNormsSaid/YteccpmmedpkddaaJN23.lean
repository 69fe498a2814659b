/-
  The walk of ObjectNorms.
-/
import Derived.Test.YteccpmmedpkddaaJN19
import Derived.Test.YteccpmmedpkddaaJN22
namespace Go.Proofs.Yteccpmmedpkddaa
open Go.RowKit
theorem box_all {wK : World} {q : Nat} {a b : Value} (h : wK.heap[q]? = some (.cells #[a, b] 25 (0, 0))) : ∀ w', Below wK.heap.size wK w' → w'.cell? ⟨q, 0, none⟩ = some a ∧ w'.cell? ⟨q, 1, none⟩ = some b := fun w' hb => by
  have hx := (hb.block _ (Array.getElem?_eq_some_iff.1 h).1).trans h
  exact ⟨cell_of_row _ _ 0 _ _ _ hx, cell_of_row _ _ 1 _ _ _ hx⟩
def LenOk (secs : List Sc) : Prop := ∀ (i : Nat) s, secs[i]? = some s → s.data.length ≤ 140737488351232 ∧ s.rel.length ≤ 4398046510976
theorem LenOk.set {secs : List Sc} (h : LenOk secs) (j : Nat) {t s : Sc} (ht : secs[j]? = some t) (h1 : s.data.length = t.data.length) (h2 : s.rel.length = t.rel.length) : LenOk (secs.set j s) := fun i u hu => by
  by_cases e : j = i
  · subst e
    rw [List.getElem?_set_self (List.getElem?_eq_some_iff.1 ht).1] at hu
    obtain rfl := Option.some.inj hu
    rw [h1, h2]; exact h j t ht
  · rw [List.getElem?_set_ne e] at hu
    exact h i u hu
/-- What the code's Clone gives, to change. -/
structure CloM (W : World) (n m : Nat) (Y : List Sy) (C : List ScC × List Sy) (e : Ending) (w' : World) : Prop where
  ex : ∃ sp sc yp yc secs, e = .returned (.agg #[.slice sp n sc, .slice yp m yc]) ∧ FrV W.heap.size w' (.slice sp n sc) (.slice yp m yc) secs Y secs.length ∧ secs.length = n ∧ Rd w' (.agg #[.slice sp n sc, .slice yp m yc]) C ∧ LenOk secs
  b : Below W.heap.size W w'
theorem CloR.mu {W w' : World} {o : Ob} {e : Ending} (h : CloR W o e w') (ho : o.rd W) : CloM W o.secs.length o.syms.length o.syms o.con e w' := by
  obtain ⟨⟨sv, yv, secs, rfl, h1, h2⟩, hb⟩ := h
  have hl : secs.length = o.secs.length := by simpa using congrArg List.length h2
  have hr := FrV.rd_con (f := id) h1 ho (fun c => ⟨rfl, rfl⟩) (by simpa using h2) rfl
  obtain ⟨sp3, sc3, rfl, -⟩ := own_shape h1.os
  obtain ⟨yp3, yc3, rfl, -⟩ := own_shape h1.oy
  have hlo : LenOk secs := fun i s hs => by
    have hs2 := List.mem_of_getElem? hs
    obtain ⟨t, ht, e⟩ : ∃ t ∈ o.secs, t.con = s.con := by
      have : s.con ∈ secs.map Sc.con := List.mem_map.2 ⟨s, hs2, rfl⟩
      rw [h2] at this
      obtain ⟨t, h1, h2⟩ := List.mem_map.1 this
      exact ⟨t, h1, h2⟩
    have e1 : s.data = t.data := (congrArg ScC.data e).symm
    have e2 : s.rel = t.rel := (congrArg ScC.rel e).symm
    rw [e1, e2]; exact ⟨(ho.each t ht).dlen, (ho.each t ht).rcap⟩
  rw [hl] at h1 hr
  exact ⟨⟨sp3, sc3, yp3, yc3, secs, by rw [hl], by rw [hl]; exact h1, hl, by simpa [Ob.con] using hr, hlo⟩, hb⟩
set_option maxRecDepth 40000 in
set_option maxHeartbeats 16000000 in
theorem norms_walk (w : World) (o p : Ob) (ho : o.ok w) (hp : p.ok w) :
    Calls Try.prog 6 #[.agg o.cells.toArray, .agg p.cells.toArray] w fun e w' => e = .returned (.bool true) ∧ Below w.heap.size w w' := by
  have HB := hid (fun w => begun_any w)
  obtain ⟨n, hn⟩ : ∃ n, n = o.secs.length := ⟨_, rfl⟩
  obtain ⟨m, hm⟩ : ∃ n, n = o.syms.length := ⟨_, rfl⟩
  obtain ⟨C, hC⟩ : ∃ C, C = o.con := ⟨_, rfl⟩
  obtain ⟨D, hD⟩ : ∃ C, C = p.con := ⟨_, rfl⟩
  obtain ⟨Y, hY⟩ : ∃ C, C = o.syms := ⟨_, rfl⟩
  obtain ⟨a0, ha0⟩ : ∃ a, a = (.slice o.sp o.secs.length o.sc : Value) := ⟨_, rfl⟩
  obtain ⟨a1, ha1⟩ : ∃ a, a = (.slice o.yp o.syms.length o.yc : Value) := ⟨_, rfl⟩
  obtain ⟨b0, hb0⟩ : ∃ a, a = (.slice p.sp p.secs.length p.sc : Value) := ⟨_, rfl⟩
  obtain ⟨b1, hb1⟩ : ∃ a, a = (.slice p.yp p.syms.length p.yc : Value) := ⟨_, rfl⟩
  have hA : (.agg o.cells.toArray : Value) = .agg #[a0, a1] := by rw [ha0, ha1]; rfl
  have hP : (.agg p.cells.toArray : Value) = .agg #[b0, b1] := by rw [hb0, hb1]; rfl
  have HRA : Hid (∀ w1, Below w.heap.size w w1 → Rd w1 (.agg #[a0, a1]) C) := fun w1 hb => ⟨o, hA.symm, (ho.below hb).rd, hC.symm⟩
  have HRP : Hid (∀ w1, Below w.heap.size w w1 → Rd w1 (.agg #[b0, b1]) D) := fun w1 hb => ⟨p, hP.symm, (hp.below hb).rd, hD.symm⟩
  have HF1 := hid (fun w1 (hb : Below w.heap.size w w1) => few_any o w1 (ho.below hb))
  have HF2 := hid (fun w1 (hb : Below w.heap.size w w1) => few_any p w1 (hp.below hb))
  have hfew : fewL o = true → o.secs.length ≤ 100000 ∧ o.syms.length ≤ 100000 := fun h => by
    unfold fewL at h
    simp at h
    omega
  have HRC : Hid (fewL o = true → ∀ w1, Below w.heap.size w w1 → Calls Try.prog 26 #[.agg o.cells.toArray] w1 (RdT w1 C)) := fun h w1 hb => by
    rw [hC]; exact (rclonO_any o w1 (ho.below hb).rd (hfew h).1 (hfew h).2).mono fun e w' x => x.rdT (ho.below hb).rd
  have HNO : Hid (fewL o = true → ∀ w1, Below w.heap.size w w1 → Calls Try.prog 27 #[.agg o.cells.toArray] w1 (RdT w1 (normC C))) := fun h w1 hb => by
    rw [hC]; exact (norm_any o w1 (ho.below hb).rd (hfew h).1 (hfew h).2).mono fun e w' x => x.rdT (ho.below hb).rd
  have HRN : Hid (fewL o = true → ∀ w1, Below w.heap.size w w1 → Calls Try.prog 30 #[.agg o.cells.toArray] w1 (RdT w1 (normC C))) := fun h w1 hb => by
    rw [hC]; exact (rnorm_any o w1 (ho.below hb).rd (hfew h).1 (hfew h).2).mono fun e w' x => x.rdT (ho.below hb).rd
  have HCL : Hid (fewL o = true → ∀ w1, Below w.heap.size w w1 → Calls Try.prog 28 #[.agg o.cells.toArray] w1 (CloM w1 n m Y C)) := fun h w1 hb => by
    rw [hC, hn, hm, hY]; exact (clone_any o w1 (ho.below hb).rd (hfew h).1 (hfew h).2).mono fun e w' x => x.r.mu (ho.below hb).rd
  have HNM : Hid (fewL o = true → n ≤ 80 ∧ m ≤ 300) := fun h => by
    unfold fewL at h
    simp at h
    omega
  have HY : Hid (Y.length = m ∧ ∀ y ∈ Y, y.name.size ≤ 140737488351232) := ⟨by rw [hY, hm], fun y hy => (ho.names y (by rw [← hY]; exact hy)).1⟩
  rw [hA] at HF1 HRC HNO HRN HCL ⊢
  rw [hP] at HF2 ⊢
  generalize fewL o = F1 at *
  generalize fewL p = F2 at *
  clear hn hm hC hD hY hA hP ha0 ha1 hb0 hb1 hfew ho hp
  clear o p
  obtain ⟨W1, hW1⟩ : ∃ W1, W1 = w.alloc (.cells #[a0, a1] 25) := ⟨_, rfl⟩
  obtain ⟨wd, hwd⟩ : ∃ wd, wd = W1.alloc (.cells #[b0, b1] 25) := ⟨_, rfl⟩
  have hz1 : W1.heap.size = w.heap.size + 1 := by rw [hW1]; simp
  have hx2 : wd.heap[w.heap.size]? = some (.cells #[a0, a1] 25 (0, 0)) := by rw [hwd, hW1]; exact (Below.heap_alloc _ _ _ (by simp)).trans (heap_alloc_new _ _)
  have hx3 : wd.heap[w.heap.size + 1]? = some (.cells #[b0, b1] 25 (0, 0)) := by
    have := heap_alloc_new W1 (.cells #[b0, b1] 25)
    rw [hz1] at this
    rw [hwd]; exact this
  have hbx : Below w.heap.size w wd := by rw [hwd, hW1]; exact ((Below.refl _ _).alloc (Nat.le_refl _) _).alloc (by simp) _
  have HBX := hid hbx
  have HX2 := hid (box_all hx2)
  have HX3 := hid (box_all hx3)
  have HXX := hid (And.intro hx2 hx3)
  have g0 : ∀ w', Below wd.heap.size wd w' → w'.cell? ⟨w.heap.size, 0, none⟩ = some a0 := fun w' hb => (HX2.out w' hb).1
  have g1 : ∀ w', Below wd.heap.size wd w' → w'.cell? ⟨w.heap.size, 1, none⟩ = some a1 := fun w' hb => (HX2.out w' hb).2
  have g2 : ∀ w', Below wd.heap.size wd w' → w'.cell? ⟨w.heap.size + 1, 0, none⟩ = some b0 := fun w' hb => (HX3.out w' hb).1
  have g3 : ∀ w', Below wd.heap.size wd w' → w'.cell? ⟨w.heap.size + 1, 1, none⟩ = some b1 := fun w' hb => (HX3.out w' hb).2
  have hq0 : Below wd.heap.size wd wd := Below.refl _ _
  have HW1 := hid hW1
  have HWD := hid hwd
  clear hz1 hx2 hx3 hbx hW1 hwd
  go_enter Try.func6, Try.ntmps6
  go_upto_region 1 with (fail)
  rw [← HW1.out, ← HWD.out]
  cases F1 with
  | false =>
    clear HRC HNO HRN HCL HNM
    go_wp2_with (first
      | (go_at_call 8; refine (HB.out _).mono ?_; rintro e w' ⟨rfl, hbq⟩; have hq2 : Below wd.heap.size wd w' := below_more hbq (by assumption) (Nat.le_refl _); clear hbq)
      | (go_at_call 13; refine (HF1.out _ (below_more (by assumption) HBX.out (Nat.le_refl _))).mono ?_; rintro e w' ⟨rfl, hbq⟩; have hq2 : Below wd.heap.size wd w' := below_more hbq (by assumption) (Nat.le_refl _); clear hbq))
    go_ret
    exact ⟨ret_bool rfl, below_more (by assumption) HBX.out (Nat.le_refl _)⟩
  | true =>
    cases F2 with
    | false =>
      clear HRC HNO HRN HCL HNM
      go_wp2_with (first
        | (go_at_call 8; refine (HB.out _).mono ?_; rintro e w' ⟨rfl, hbq⟩; have hq2 : Below wd.heap.size wd w' := below_more hbq (by assumption) (Nat.le_refl _); clear hbq)
        | (go_at_call 13; with_reducible refine (HF1.out _ (below_more (by assumption) HBX.out (Nat.le_refl _))).mono ?_; rintro e w' ⟨rfl, hbq⟩; have hq2 : Below wd.heap.size wd w' := below_more hbq (by assumption) (Nat.le_refl _); clear hbq)
        | (go_at_call 13; with_reducible refine (HF2.out _ (below_more (by assumption) HBX.out (Nat.le_refl _))).mono ?_; rintro e w' ⟨rfl, hbq⟩; have hq2 : Below wd.heap.size wd w' := below_more hbq (by assumption) (Nat.le_refl _); clear hbq))
      go_ret
      exact ⟨ret_bool rfl, below_more (by assumption) HBX.out (Nat.le_refl _)⟩
    | true =>
      have HRC2 := hid (HRC.out rfl); clear HRC; have HRC := HRC2; clear HRC2
      have HNO2 := hid (HNO.out rfl); clear HNO; have HNO := HNO2; clear HNO2
      have HRN2 := hid (HRN.out rfl); clear HRN; have HRN := HRN2; clear HRN2
      have HCL2 := hid (HCL.out rfl); clear HCL; have HCL := HCL2; clear HCL2
      have HNM2 := hid (HNM.out rfl); clear HNM; have HNM := HNM2; clear HNM2
      go_upto_region 3 with (first
        | (go_at_call 8; refine (HB.out _).mono ?_; rintro e w' ⟨rfl, hbq⟩; have hq2 : Below wd.heap.size wd w' := below_more hbq (by assumption) (Nat.le_refl _); clear hbq)
        | (go_at_call 13; with_reducible refine (HF1.out _ (below_more (by assumption) HBX.out (Nat.le_refl _))).mono ?_; rintro e w' ⟨rfl, hbq⟩; have hq2 : Below wd.heap.size wd w' := below_more hbq (by assumption) (Nat.le_refl _); clear hbq)
        | (go_at_call 13; with_reducible refine (HF2.out _ (below_more (by assumption) HBX.out (Nat.le_refl _))).mono ?_; rintro e w2 ⟨rfl, hbq⟩; have hq9 : Below wd.heap.size wd w2 := below_more hbq (by assumption) (Nat.le_refl _); clear hbq))
      have HQ2 := hid hq9
      have c0 := g0 _ hq9
      have c1 := g1 _ hq9
      clear g0 g1 g2 g3 hq9 hq0
      clear HF1 HF2
      -- was
      go_upto_region 4 with (go_at_call 26; go_loud ((with_reducible refine (HRC.out _ (below_more HQ2.out HBX.out (Nat.le_refl _))).mono ?_); rintro e w3 ⟨⟨up, un, uc, uq, um, ud, rfl, hr3⟩, hb3⟩; have HR3 := hid hr3; have HB3 := hid hb3; clear hr3 hb3))
      obtain ⟨w4, hw4⟩ : ∃ w4, w4 = w3.alloc (.cells #[.slice up un uc, .slice uq um ud] 25) := ⟨_, rfl⟩
      have hx5 : w4.heap[w3.heap.size]? = some (.cells #[.slice up un uc, .slice uq um ud] 25 (0, 0)) := by rw [hw4]; exact heap_alloc_new _ _
      have hb4 : Below w3.heap.size w3 w4 := by rw [hw4]; exact (of_alloc rfl).1
      have hq4 : Below wd.heap.size wd w4 := below_more hb4 (below_more HB3.out HQ2.out (Nat.le_refl _)) (Nat.le_refl _)
      have HR4 := hid (HR3.out.below hb4)
      rw [← hw4]
      obtain ⟨q5, hq5⟩ : ∃ q, q = w3.heap.size := ⟨_, rfl⟩
      rw [← hq5] at hx5 ⊢
      have HX5 := hid hx5
      have HQ4 := hid hq4
      have c0 := (HX2.out _ hq4).1
      have c1 := (HX2.out _ hq4).2
      clear hq5 hw4 hx5 hb4 hq4
      -- x
      go_upto_region 5 with (go_at_call 27; go_loud ((with_reducible refine (HNO.out _ (below_more HQ4.out HBX.out (Nat.le_refl _))).mono ?_); rintro e w5 ⟨⟨xp, xn, xc, xq, xm, xd, rfl, hr5⟩, hb5⟩; have HR5 := hid hr5; have HB5 := hid hb5; clear hr5 hb5))
      obtain ⟨w6, hw6⟩ : ∃ w6, w6 = w5.alloc (.cells #[.slice xp xn xc, .slice xq xm xd] 25) := ⟨_, rfl⟩
      have hx6 : w6.heap[w5.heap.size]? = some (.cells #[.slice xp xn xc, .slice xq xm xd] 25 (0, 0)) := by rw [hw6]; exact heap_alloc_new _ _
      have hb6 : Below w5.heap.size w5 w6 := by rw [hw6]; exact (of_alloc rfl).1
      have hb46 : Below w4.heap.size w4 w6 := below_more hb6 HB5.out (Nat.le_refl _)
      have hq6 : Below wd.heap.size wd w6 := below_more hb46 HQ4.out (Nat.le_refl _)
      have HR6 := hid (HR5.out.below hb6)
      have HR46 := hid (HR4.out.below hb46)
      rw [← hw6]
      obtain ⟨q6, hq6'⟩ : ∃ q, q = w5.heap.size := ⟨_, rfl⟩
      rw [← hq6'] at hx6 ⊢
      have HX56 : Hid (w6.heap[q5]? = some (.cells #[.slice up un uc, .slice uq um ud] 25 (0, 0))) := (hb46.block _ (Array.getElem?_eq_some_iff.1 HX5.out).1).trans HX5.out
      have HX6 := hid hx6
      have HQ6 := hid hq6
      have c0 := (HX2.out _ hq6).1
      have c1 := (HX2.out _ hq6).2
      clear hq6' hw6 hx6 hb6 hb46 hq6
      -- c
      go_upto_region 6 with (go_at_call 28; go_loud ((with_reducible refine (HCL.out _ (below_more HQ6.out HBX.out (Nat.le_refl _))).mono ?_); rintro e w7 ⟨⟨sp, sc, yp, yc, secs, rfl, hf7, hl7, hr7, hlo7⟩, hb7⟩; have HLO7 := hid hlo7; have HF7 := hid hf7; have HL7 := hid hl7; have HR7 := hid hr7; have HB7 := hid hb7; clear hf7 hl7 hr7 hb7 hlo7))
      obtain ⟨w8, hw8⟩ : ∃ w8, w8 = w7.alloc (.cells #[.slice sp n sc, .slice yp m yc] 25) := ⟨_, rfl⟩
      have hx7 : w8.heap[w7.heap.size]? = some (.cells #[.slice sp n sc, .slice yp m yc] 25 (0, 0)) := by rw [hw8]; exact heap_alloc_new _ _
      have hb8 : Below w7.heap.size w7 w8 := by rw [hw8]; exact (of_alloc rfl).1
      have hb68 : Below w6.heap.size w6 w8 := below_more hb8 HB7.out (Nat.le_refl _)
      have HR78 := hid (HR7.out.below hb8)
      rw [← hw8]
      obtain ⟨g, hg⟩ : ∃ q, q = w7.heap.size := ⟨_, rfl⟩
      rw [← hg] at hx7 ⊢
      have hmu : MuA w6.heap.size w6 g (.slice sp n sc) (.slice yp m yc) secs Y w8 := ⟨HF7.out.below (HB7.out.size) hb8, hx7, by rw [hg]; exact HB7.out.size, hb68, rfl⟩
      have HMU := hid hmu
      -- what every later world keeps, and what those keep that change c alone
      have HKW : Hid (∀ w', Below w8.heap.size w8 w' → Below w6.heap.size w6 w') := fun w' hb => below_more hb hb68 (Nat.le_refl _)
      have HA6 : Hid (∀ w', Below w6.heap.size w6 w' → Rd w' (.agg #[a0, a1]) C) := fun w' hb => HRA.out w' (below_more (below_more hb HQ6.out (Nat.le_refl _)) HBX.out (Nat.le_refl _))
      have HP6 : Hid (∀ w', Below w6.heap.size w6 w' → Rd w' (.agg #[b0, b1]) D) := fun w' hb => HRP.out w' (below_more (below_more hb HQ6.out (Nat.le_refl _)) HBX.out (Nat.le_refl _))
      have HU6 : Hid (∀ w', Below w6.heap.size w6 w' → Rd w' (.agg #[.slice up un uc, .slice uq um ud]) C) := fun w' hb => HR46.out.below hb
      have HX6R : Hid (∀ w', Below w6.heap.size w6 w' → Rd w' (.agg #[.slice xp xn xc, .slice xq xm xd]) (normC C)) := fun w' hb => HR6.out.below hb
      have HC8 : Hid (∀ w', Below w8.heap.size w8 w' → Rd w' (.agg #[.slice sp n sc, .slice yp m yc]) C) := fun w' hb => HR78.out.below hb
      have HRN8 : Hid (∀ w', Below w8.heap.size w8 w' → Calls Try.prog 30 #[.agg #[a0, a1]] w' (RdT w' (normC C))) := fun w' hb => HRN.out w' (below_more (below_more (HKW.out _ hb) HQ6.out (Nat.le_refl _)) HBX.out (Nat.le_refl _))
      have HRES : Hid (∀ w', Below w6.heap.size w6 w' → Below w.heap.size w w') := fun w' hb => below_more (below_more hb HQ6.out (Nat.le_refl _)) HBX.out (Nat.le_refl _)
      have k20 : Hid (∀ w', Below w6.heap.size w6 w' → w'.cell? ⟨w.heap.size, 0, none⟩ = some a0 ∧ w'.cell? ⟨w.heap.size, 1, none⟩ = some a1) := fun w' hb => HX2.out _ (below_more hb HQ6.out (Nat.le_refl _))
      have k30 : Hid (∀ w', Below w6.heap.size w6 w' → w'.cell? ⟨w.heap.size + 1, 0, none⟩ = some b0 ∧ w'.cell? ⟨w.heap.size + 1, 1, none⟩ = some b1) := fun w' hb => HX3.out _ (below_more hb HQ6.out (Nat.le_refl _))
      have k50 := hid (box_all HX56.out)
      have k60 := hid (box_all HX6.out)
      have k70 := hid (box_all hx7)
      have HZ8 := hid hb68
      clear hx7 hb8 hb68 hg hw8 hmu HX5 HX56 HX6 HR3 HB3 HR4 HR5 HB5 HR6 HR46 HR7 HB7 HR78 HF7 HRC HNO HRN HCL HRA HRP HQ2 HQ4 HX2 HX3 HXX HW1 HWD
      have j0 : ∀ w', Below w8.heap.size w8 w' → w'.cell? ⟨w.heap.size, 0, none⟩ = some a0 := fun w' hb => (k20.out w' (HKW.out _ hb)).1
      have j1 : ∀ w', Below w8.heap.size w8 w' → w'.cell? ⟨w.heap.size, 1, none⟩ = some a1 := fun w' hb => (k20.out w' (HKW.out _ hb)).2
      have j2 : ∀ w', Below w8.heap.size w8 w' → w'.cell? ⟨w.heap.size + 1, 0, none⟩ = some b0 := fun w' hb => (k30.out w' (HKW.out _ hb)).1
      have j3 : ∀ w', Below w8.heap.size w8 w' → w'.cell? ⟨w.heap.size + 1, 1, none⟩ = some b1 := fun w' hb => (k30.out w' (HKW.out _ hb)).2
      have j4 : ∀ w', Below w8.heap.size w8 w' → w'.cell? ⟨q6, 0, none⟩ = some (.slice xp xn xc) := fun w' hb => (k60.out w' (HKW.out _ hb)).1
      have j5 : ∀ w', Below w8.heap.size w8 w' → w'.cell? ⟨q6, 1, none⟩ = some (.slice xq xm xd) := fun w' hb => (k60.out w' (HKW.out _ hb)).2
      have j6 : ∀ w', Below w8.heap.size w8 w' → w'.cell? ⟨g, 0, none⟩ = some (.slice sp n sc) := fun w' hb => (k70.out w' hb).1
      have j7 : ∀ w', Below w8.heap.size w8 w' → w'.cell? ⟨g, 1, none⟩ = some (.slice yp m yc) := fun w' hb => (k70.out w' hb).2
      obtain ⟨E, hE⟩ : ∃ E, E = decide (C = D) := ⟨_, rfl⟩
      have HT : Hid (∀ w' u v K, Rd w' u K → Rd w' v K → Calls Try.prog 29 #[u, v] w' fun e w'' => e = .returned (.bool true) ∧ Below w'.heap.size w' w'') := fun w' u v K h1 h2 => by simpa using rsame_rd h1 h2
      have HT2 : Hid (∀ w' u v K, Rd w' u K → Rd w' v K → Calls Try.prog 31 #[u, v] w' fun e w'' => e = .returned (.bool true) ∧ Below w'.heap.size w' w'') := fun w' u v K h1 h2 => by simpa using same_rd h1 h2
      have HE1 : Hid (∀ w', Below w8.heap.size w8 w' → Calls Try.prog 29 #[.agg #[a0, a1], .agg #[b0, b1]] w' fun e w'' => e = .returned (.bool E) ∧ Below w'.heap.size w' w'') := fun w' hb => by rw [hE]; exact rsame_rd (HA6.out _ (HKW.out _ hb)) (HP6.out _ (HKW.out _ hb))
      have HE2 : Hid (∀ w', Below w8.heap.size w8 w' → Calls Try.prog 31 #[.agg #[a0, a1], .agg #[b0, b1]] w' fun e w'' => e = .returned (.bool E) ∧ Below w'.heap.size w' w'') := fun w' hb => by rw [hE]; exact same_rd (HA6.out _ (HKW.out _ hb)) (HP6.out _ (HKW.out _ hb))
      clear hE c0 c1
      have hee : (E != E) = false := by simp
      go_region_held3 (fun w' => Below w8.heap.size w8 w') (first | exact (Below.refl _ _).drew | assumption) (first
        | (go_at_call 30; with_reducible refine (HRN8.out _ (by assumption)).mono ?_; rintro e w' ⟨⟨np, nn, nc, nq, nm, nd, rfl, hrn⟩, hbq⟩; have hq2 : Below w8.heap.size w8 w' := below_more hbq (by assumption) (Nat.le_refl _); clear hbq)
        | (go_at_call 29; with_reducible refine (HE1.out _ (by assumption)).mono ?_; rintro e w' ⟨rfl, hbq⟩; have hq2 : Below w8.heap.size w8 w' := below_more hbq (by assumption) (Nat.le_refl _); clear hbq)
        | (go_at_call 29; with_reducible refine (HT.out _ _ _ _ (HX6R.out _ (HKW.out _ (by assumption))) (by assumption)).mono ?_; rintro e w' ⟨rfl, hbq⟩; have hq2 : Below w8.heap.size w8 w' := below_more hbq (by assumption) (Nat.le_refl _); clear hbq)
        | (go_at_call 29; with_reducible refine (HT.out _ _ _ _ (HC8.out _ (by assumption)) (HA6.out _ (HKW.out _ (by assumption)))).mono ?_; rintro e w' ⟨rfl, hbq⟩; have hq2 : Below w8.heap.size w8 w' := below_more hbq (by assumption) (Nat.le_refl _); clear hbq)
        | (go_at_call 31; with_reducible refine (HE2.out _ (by assumption)).mono ?_; rintro e w' ⟨rfl, hbq⟩; have hq2 : Below w8.heap.size w8 w' := below_more hbq (by assumption) (Nat.le_refl _); clear hbq)
        | (go_at_call 31; with_reducible refine (HT2.out _ _ _ _ (HA6.out _ (HKW.out _ (by assumption))) (HA6.out _ (HKW.out _ (by assumption)))).mono ?_; rintro e w' ⟨rfl, hbq⟩; have hq2 : Below w8.heap.size w8 w' := below_more hbq (by assumption) (Nat.le_refl _); clear hbq))
      clear j0 j1 j2 j3 j4 j5 j6 j7
      rename World => wz
      have hz : Below w8.heap.size w8 wz := by assumption
      have HM1 := hid (HMU.out.below hz)
      have x0 := (k70.out wz hz).1
      have x1 := (k70.out wz hz).2
      clear hz HMU HKW HC8 HRN8 k70 HZ8 HE1 HE2 HT2 HX6R HP6 k30 k60 hee
      go_wp2_with (fail)
      go_loopw [61] (fun i wr => ∃ (k : Nat), k ≤ m ∧ i = .int .i64 k ∧ Aside (∃ (Y2 : List Sy), MuA w6.heap.size w6 g (.slice sp n sc) (.slice yp m yc) secs Y2 wr ∧ Y2.length = m ∧ ∀ j, k ≤ j → Y2[j]? = Y[j]?)) (fun i _ => m - (intOf i).toNat)
      case atStart => exact ⟨0, by omega, rfl, ⟨Y, HM1.out, HY.out.1, fun _ _ => rfl⟩⟩
      case round =>
        clear x0 x1
        rename World => wr
        obtain ⟨k, hk, rfl, hrr⟩ := hrel
        obtain ⟨Y2, hM, hl2, hsame⟩ := hrr.out
        clear hrr
        have hx := hM.box
        have x0 := cell_of_row _ _ 0 _ _ _ hx
        have x1 := cell_of_row _ _ 1 _ _ _ hx
        simp only [List.getElem?_toArray, List.getElem?_cons_zero, List.getElem?_cons_succ] at x0 x1
        by_cases hlt : k < m
        · have hkI : (k : Int) < m := by omega
          have hm3 : m ≤ 300 := HNM.out.2
          obtain ⟨gy, hgy⟩ : ∃ gy, yp = some ⟨gy, 0, none⟩ := by
            obtain ⟨a, b, e, _⟩ := own_block hM.fr.oy (by omega)
            cases e; exact ⟨a, rfl⟩
          subst hgy
          have hk2 : k < Y2.length := by omega
          obtain ⟨y, hy⟩ : ∃ y, Y2[k]? = some y := ⟨_, List.getElem?_eq_getElem hk2⟩
          have hys : y.name.size ≤ 140737488351232 := by
            have := hsame k (Nat.le_refl _)
            rw [hy] at this
            exact HY.out.2 y (List.mem_of_getElem? this.symm)
          have hoy := hM.fr.oy
          rw [hl2] at hoy
          have hcl : wr.cell? ⟨gy, k * 4, none⟩ = some (.string y.name) := by
            obtain ⟨_, _, e, hr⟩ := own_shape hoy
            cases e
            have := (sy_cells hr k hk2).1
            rw [Nat.zero_add, (List.getElem?_eq_some_iff.1 hy).2] at this
            exact this
          have hfz := World.ownsRow.frozenAt hoy (k * 4)
          have HST : Hid (∀ x, MuA w6.heap.size w6 g (.slice sp n sc) (.slice (some ⟨gy, 0, none⟩) m yc) secs (Y2.set k { y with name := x }) (wr.setCell ⟨gy, k * 4, none⟩ (.string x))) := fun x => (hM.setN hl2.symm hy x).1
          have HSM := hid hsame
          have HL2 := hid hl2
          clear hM hx hy hoy hsame hl2 hk2
          go_wp2_with fail
          refine ⟨⟨k + 1, by omega, by go_num, ⟨_, HST.out _, by rw [List.length_set]; exact HL2.out, fun j hj => ?_⟩⟩, by simp [intOf]; omega⟩
          rw [List.getElem?_set_ne (by omega)]
          exact HSM.out j (by omega)
        · have hke : k = m := by omega
          have HM2 := hid hM
          have HL2 := hid hl2
          clear hM hx hsame hl2
          go_wp2_with (fail)
          go_loopw [77] (fun i wr => ∃ (j : Nat), j ≤ n ∧ i = .int .i64 j ∧ Aside (∃ (secs2 : List Sc), MuA w6.heap.size w6 g (.slice sp n sc) (.slice yp m yc) secs2 Y2 wr ∧ secs2.length = n ∧ LenOk secs2)) (fun i _ => n - (intOf i).toNat)
          case atStart => exact ⟨0, by omega, rfl, ⟨secs, HM2.out, HL7.out, HLO7.out⟩⟩
          case round =>
            clear x0 x1
            rename World => ws
            obtain ⟨j, hj, rfl, hrr⟩ := hrel
            obtain ⟨secs2, hM, hl3, hlo⟩ := hrr.out
            clear hrr
            have hn80 : n ≤ 80 := HNM.out.1
            by_cases hlt : j < n
            · have hjI : (j : Int) < n := by omega
              have hj2 : j < secs2.length := by omega
              obtain ⟨s, hs⟩ : ∃ s, secs2[j]? = some s := ⟨_, List.getElem?_eq_getElem hj2⟩
              obtain ⟨gs, hgs⟩ : ∃ gs, sp = some ⟨gs, 0, none⟩ := by
                obtain ⟨a, b, e, _⟩ := own_block hM.fr.os (by omega)
                cases e; exact ⟨a, rfl⟩
              subst hgs
              have hos := hM.fr.os
              rw [hl3] at hos
              obtain ⟨_, _, e, hr⟩ := own_shape hos
              cases e
              clear hos
              obtain ⟨y0, y1, y2, y3, y4, y5⟩ := sc_cells hr j hj2
              rw [(List.getElem?_eq_some_iff.1 hs).2] at y0 y1 y2 y3 y4 y5
              simp only [Nat.zero_add] at y0 y1 y2 y3 y4 y5
              obtain ⟨dl, hdl⟩ : ∃ d, d = s.data.length := ⟨_, rfl⟩
              obtain ⟨rl, hrl⟩ : ∃ d, d = s.rel.length := ⟨_, rfl⟩
              rw [← hdl] at y4
              rw [← hrl] at y5
              obtain ⟨wt, hwt⟩ : ∃ wt, wt = ws.alloc (.cells #[.string s.name, .int .i64 s.kind, .int .i64 s.align, .int .i64 s.size, .slice s.dp dl s.dc, .slice s.rp rl s.rc] 40) := ⟨_, rfl⟩
              have hq : wt.heap[ws.heap.size]? = some (.cells #[.string s.name, .int .i64 s.kind, .int .i64 s.align, .int .i64 s.size, .slice s.dp dl s.dc, .slice s.rp rl s.rc] 40 (0, 0)) := by rw [hwt]; exact heap_alloc_new _ _
              have hmt := hM.below (w' := wt) (by rw [hwt]; exact (of_alloc rfl).1)
              have HMT := hid hmt
              have HS := hid (And.intro hs (And.intro hdl.symm hrl.symm))
              have HL3 := hid hl3
              have HWT := hid hwt
              generalize s.name = nm at hq y0 HWT
              generalize s.kind = kd at hq y1 HWT
              generalize s.align = al at hq y2 HWT
              generalize s.size = sz at hq y3 HWT
              obtain ⟨dp, hdp⟩ : ∃ d, d = s.dp := ⟨_, rfl⟩
              obtain ⟨dc, hdc⟩ : ∃ d, d = s.dc := ⟨_, rfl⟩
              obtain ⟨rp, hrp⟩ : ∃ d, d = s.rp := ⟨_, rfl⟩
              obtain ⟨rc, hrc⟩ : ∃ d, d = s.rc := ⟨_, rfl⟩
              rw [← hdp, ← hdc] at y4
              rw [← hrp, ← hrc] at y5
              rw [← hdp, ← hdc, ← hrp, ← hrc] at hq HWT
              have HP := hid (And.intro hdp.symm hrp.symm)
              have hdlb : dl ≤ 140737488351232 := by rw [hdl]; exact (hlo j s hs).1
              have hrlb : rl ≤ 4398046510976 := by rw [hrl]; exact (hlo j s hs).2
              have HLO := hid hlo
              have HQ := hid hq
              have t4 := cell_of_row _ _ 4 _ _ _ hq
              simp only [List.getElem?_toArray, List.getElem?_cons_zero, List.getElem?_cons_succ] at t4
              obtain ⟨q, hqq⟩ : ∃ q, q = ws.heap.size := ⟨_, rfl⟩
              have HQQ := hid hqq
              clear hM hs hr hdl hrl hwt hq hmt hdp hrp hdc hrc hl3 hj2 hqq hlo
              go_upto_region 16 with (fail)
              rw [← HWT.out]
              rw [← HQQ.out] at t4 HQ ⊢
              clear y0 y1 y2 y3 y4 y5
              go_wp2_with (fail)
              go_loopw [84] (fun i wr => ∃ (k : Nat), k ≤ dl ∧ i = .int .i64 k ∧ Aside (∃ (secs3 : List Sc) (s2 : Sc), MuA w6.heap.size w6 g (.slice (some ⟨gs, 0, none⟩) n sc) (.slice yp m yc) secs3 Y2 wr ∧ secs3.length = n ∧ secs3[j]? = some s2 ∧ s2.dp = dp ∧ s2.rp = rp ∧ s2.data.length = dl ∧ s2.rel.length = rl ∧ LenOk secs3 ∧ wr.heap[q]? = some (.cells #[.string nm, .int .i64 kd, .int .i64 al, .int .i64 sz, .slice dp dl dc, .slice rp rl rc] 40 (0, 0)))) (fun i _ => dl - (intOf i).toNat)
              case atStart => exact ⟨0, by omega, rfl, ⟨secs2, s, HMT.out, HL3.out, HS.out.1, HP.out.1, HP.out.2, HS.out.2.1, HS.out.2.2, HLO.out, HQ.out⟩⟩
              case round =>
                clear t4
                rename World => wu
                obtain ⟨k, hk, rfl, hrr⟩ := hrel
                obtain ⟨secs3, s2, hM, hl3, hs2, hdp2, hrp2, hdl2, hrl2, hlo, hq⟩ := hrr.out
                clear hrr
                have t4 := cell_of_row _ _ 4 _ _ _ hq
                have t5 := cell_of_row _ _ 5 _ _ _ hq
                simp only [List.getElem?_toArray, List.getElem?_cons_zero, List.getElem?_cons_succ] at t4 t5
                have hj3 : j < secs3.length := (List.getElem?_eq_some_iff.1 hs2).1
                by_cases hkd : k < dl
                · have hkI : (k : Int) < dl := by omega
                  have hrow := (hM.fr.each j s2 hj3 hs2).data
                  unfold dV at hrow
                  rw [hdp2] at hrow
                  obtain ⟨gd, hgd⟩ : ∃ gd, dp = some ⟨gd, 0, none⟩ := by
                    obtain ⟨a, b, e, _⟩ := own_block hrow (by omega)
                    cases e; exact ⟨a, rfl⟩
                  subst hgd
                  have hcl := own_cell hrow k (by simp; omega)
                  obtain ⟨v, hv⟩ : ∃ v, (s2.data.map (Value.int .u8))[k]'(by simp; omega) = Value.int .u8 v := ⟨_, List.getElem_map _⟩
                  have hc1 := hcl.1
                  rw [hv] at hc1
                  have hc2 := hcl.2
                  have HST : Hid (∀ x, MuA w6.heap.size w6 g (.slice (some ⟨gs, 0, none⟩) n sc) (.slice yp m yc) (secs3.set j { s2 with data := s2.data.set k x }) Y2 (wu.setCell ⟨gd, k, none⟩ (.int .u8 x)) ∧ (wu.setCell ⟨gd, k, none⟩ (.int .u8 x)).heap[q]? = some (.cells #[.string nm, .int .i64 kd, .int .i64 al, .int .i64 sz, .slice (some ⟨gd, 0, none⟩) dl dc, .slice rp rl rc] 40 (0, 0))) := fun x => by
                    have := hM.setD hs2 hdp2 k x
                    exact ⟨this.1, this.2.keep (by decide) hq⟩
                  have HN := hid (And.intro hl3 (And.intro hj3 (And.intro hdp2 (And.intro hrp2 (And.intro hdl2 hrl2)))))
                  have HLO3 : Hid (∀ x, LenOk (secs3.set j { s2 with data := s2.data.set k x })) := fun x => hlo.set j hs2 List.length_set rfl
                  clear hM hs2 hq hrow hcl hv hl3 hj3 hdp2 hrp2 hdl2 hrl2 hlo
                  go_wp2_with fail
                  exact ⟨⟨k + 1, by omega, by go_num, ⟨_, _, (HST.out _).1, by rw [List.length_set]; exact HN.out.1, List.getElem?_set_self HN.out.2.1, HN.out.2.2.1, HN.out.2.2.2.1, by simpa using HN.out.2.2.2.2.1, HN.out.2.2.2.2.2, HLO3.out _, (HST.out _).2⟩⟩, by simp [intOf]; omega⟩
                · have hke : k = dl := by omega
                  have HM4 := hid hM
                  have HN4 := hid (And.intro hl3 (And.intro hs2 (And.intro hdp2 (And.intro hrp2 (And.intro hdl2 (And.intro hrl2 (And.intro hlo hq)))))))
                  clear hM hq hlo hl3 hs2 hdp2 hrp2 hdl2 hrl2 hj3
                  go_wp2_with (fail)
                  go_loopw [98] (fun i wr => ∃ (k : Nat), k ≤ rl ∧ i = .int .i64 k ∧ Aside (∃ (secs3 : List Sc) (s2 : Sc), MuA w6.heap.size w6 g (.slice (some ⟨gs, 0, none⟩) n sc) (.slice yp m yc) secs3 Y2 wr ∧ secs3.length = n ∧ secs3[j]? = some s2 ∧ s2.dp = dp ∧ s2.rp = rp ∧ s2.data.length = dl ∧ s2.rel.length = rl ∧ LenOk secs3 ∧ wr.heap[q]? = some (.cells #[.string nm, .int .i64 kd, .int .i64 al, .int .i64 sz, .slice dp dl dc, .slice rp rl rc] 40 (0, 0)))) (fun i _ => rl - (intOf i).toNat)
                  case atStart => exact ⟨0, by omega, rfl, ⟨secs3, s2, HM4.out, HN4.out⟩⟩
                  case round =>
                    clear t4 t5
                    rename World => wv
                    obtain ⟨x, hx, rfl, hrr⟩ := hrel
                    obtain ⟨secs4, s4, hM, hl3, hs2, hdp2, hrp2, hdl2, hrl2, hlo, hq⟩ := hrr.out
                    clear hrr
                    have t5 := cell_of_row _ _ 5 _ _ _ hq
                    simp only [List.getElem?_toArray, List.getElem?_cons_zero, List.getElem?_cons_succ] at t5
                    have hj3 : j < secs4.length := (List.getElem?_eq_some_iff.1 hs2).1
                    by_cases hxr : x < rl
                    · have hxI : (x : Int) < rl := by omega
                      have hrow := (hM.fr.each j s4 hj3 hs2).rel
                      unfold rV at hrow
                      rw [hrp2] at hrow
                      obtain ⟨gr, hgr⟩ : ∃ gr, rp = some ⟨gr, 0, none⟩ := by
                        obtain ⟨a, b, e, _⟩ := own_block hrow (by omega)
                        cases e; exact ⟨a, rfl⟩
                      subst hgr
                      obtain ⟨r, hr⟩ : ∃ r, s4.rel[x]? = some r := ⟨_, List.getElem?_eq_getElem (by omega)⟩
                      have hrow2 := hrow
                      obtain ⟨_, _, e, hrr⟩ := own_shape hrow2
                      cases e
                      have hc1 := (rl_cells hrr x (by omega)).1
                      rw [Nat.zero_add, (List.getElem?_eq_some_iff.1 hr).2] at hc1
                      have hc2 := World.ownsRow.frozenAt hrow (x * 4)
                      have HST : Hid (∀ v, MuA w6.heap.size w6 g (.slice (some ⟨gs, 0, none⟩) n sc) (.slice yp m yc) (secs4.set j { s4 with rel := s4.rel.set x { r with off := v } }) Y2 (wv.setCell ⟨gr, x * 4, none⟩ (.int .i64 v)) ∧ (wv.setCell ⟨gr, x * 4, none⟩ (.int .i64 v)).heap[q]? = some (.cells #[.string nm, .int .i64 kd, .int .i64 al, .int .i64 sz, .slice dp dl dc, .slice (some ⟨gr, 0, none⟩) rl rc] 40 (0, 0))) := fun v => by
                        have := hM.setO hs2 hrp2 hr v
                        exact ⟨this.1, this.2.keep (by decide) hq⟩
                      have HN := hid (And.intro hl3 (And.intro hj3 (And.intro hdp2 (And.intro hrp2 (And.intro hdl2 hrl2)))))
                      have HLO3 : Hid (∀ v, LenOk (secs4.set j { s4 with rel := s4.rel.set x { r with off := v } })) := fun v => hlo.set j hs2 rfl List.length_set
                      clear hM hs2 hq hrow hrow2 hrr hr hl3 hj3 hdp2 hrp2 hdl2 hrl2 hlo
                      go_wp2_with fail
                      exact ⟨⟨x + 1, by omega, by go_num, ⟨_, _, (HST.out _).1, by rw [List.length_set]; exact HN.out.1, List.getElem?_set_self HN.out.2.1, HN.out.2.2.1, HN.out.2.2.2.1, HN.out.2.2.2.2.1, by simpa using HN.out.2.2.2.2.2, HLO3.out _, (HST.out _).2⟩⟩, by simp [intOf]; omega⟩
                    · have hxe : x = rl := by omega
                      have HM5 := hid hM
                      have HL5 := hid (And.intro hl3 hlo)
                      clear hM hq hlo hl3 hs2 hdp2 hrp2 hdl2 hrl2 hj3
                      go_wp2_with fail
                      exact ⟨⟨j + 1, by omega, by go_num, ⟨_, HM5.out, HL5.out⟩⟩, by simp [intOf]; omega⟩
            · have hje : j = n := by omega
              have hbw : Below w6.heap.size w6 ws := hM.b
              have c0 := (k20.out _ hbw).1
              have c1 := (k20.out _ hbw).2
              have c2 := (k50.out _ hbw).1
              have c3 := (k50.out _ hbw).2
              have HBW := hid hbw
              clear hM hl3 hlo hbw
              go_wp2_with (go_at_call 29; go_loud ((with_reducible refine (HT.out _ _ _ _ (HA6.out _ HBW.out) (HU6.out _ HBW.out)).mono ?_); rintro e wy ⟨rfl, hby⟩; have HBY := hid (below_more hby HBW.out (Nat.le_refl _)); clear hby))
              go_ret
              exact ⟨ret_bool rfl, HRES.out _ HBY.out⟩
end Go.Proofs.Yteccpmmedpkddaa
