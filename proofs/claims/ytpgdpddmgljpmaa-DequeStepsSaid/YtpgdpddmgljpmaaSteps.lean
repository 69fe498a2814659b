/-
  The walk of DequeSteps.
-/
import Derived.Test.YtpgdpddmgljpmaaOpenD
import Derived.Test.YtpgdpddmgljpmaaR11
namespace Go.Proofs.Ytpgdpddmgljpmaa
open Go.RowKit
variable {w w' : World}

theorem ints_two {l : List Int} (h : ∀ n ∈ l, (Lit.int .i64 n).wf = true) : ∀ n ∈ l, -9223372036854775808 ≤ n ∧ n ≤ 9223372036854775807 := fun n hn => wf_i64 (h n hn)
theorem steps_ends (r : Nat) (own : List (Int × Int)) (th : List Int) : (newDq r own th).doneN (-1) = true ∧ (newDq r own th).doneN ((newDq r own th).hs.length : Int) = true := by
  constructor <;> unfold Dq.doneN <;> simp
set_option maxRecDepth 100000 in
set_option maxHeartbeats 4000000 in
theorem steps_walk (w : World) (r : Int) (wr : (Lit.int .i64 r).wf = true)
    (p0 : Option Addr) (c0 : Nat) (own : List (Int × Int)) (ok0 : own.length ≤ c0 ∧ c0 ≤ maxLen ∧ (p0 = none → c0 = 0) ∧ Row w p0 (own.flatMap (fun o : Int × Int => [i64 o.1, i64 o.2])) ∧ (∀ o ∈ own, inI64 o.1 ∧ inI64 o.2) ∧ c0 * Try.prog.bytesOf 27 ≤ 140737488351232)
    (p1 : Option Addr) (c1 : Nat) (th : List Int) (ok1 : th.length ≤ c1 ∧ c1 ≤ maxLen ∧ (p1 = none → c1 = 0) ∧ Row w p1 (th.map (Value.int .i64)) ∧ (∀ n ∈ th, (Lit.int .i64 n).wf = true) ∧ c1 * 8 ≤ 140737488351232)
    (p2 : Option Addr) (c2 : Nat) (pk : List Int) (ok2 : pk.length ≤ c2 ∧ c2 ≤ maxLen ∧ (p2 = none → c2 = 0) ∧ Row w p2 (pk.map (Value.int .u8)) ∧ (∀ n ∈ pk, (Lit.int .u8 n).wf = true) ∧ c2 * 1 ≤ 140737488351232) :
    Calls Try.prog 5 #[.int .i64 r, .slice p0 own.length c0, .slice p1 th.length c1, .slice p2 pk.length c2] w fun e w' => e = .returned (.bool true) ∧ Below w.heap.size w w' := by
  show Calls Try.prog 5 #[.int .i64 r, .slice p0 own.length c0, .slice p1 th.length c1, .slice p2 pk.length c2] w (BegP w)
  obtain ⟨hc0, hm0, hp0, row0, _, hz0⟩ := ok0
  obtain ⟨hc1, hm1, hp1, row1, wf1, _⟩ := ok1
  obtain ⟨hc2, hm2, hp2, row2, wf2, _⟩ := ok2
  have row0 : Row w p0 (opCells own) := row0
  obtain ⟨picks, hpl, hpu, hpe⟩ := picks_nat pk wf2
  rw [hpe] at row2
  rw [← hpl] at hc2 ⊢
  clear hpe hpl wf2 pk
  have hb27 : Try.prog.bytesOf 27 = 16 := by kernel_rfl
  rw [hb27] at hz0
  have hr64 := wf_i64 wr
  unfold inI64 at hr64
  have HW1 := hid (ints_two wf1)
  have HR0 := hid row0
  have HR1 := hid row1
  have HR2 := hid row2
  have HM := hid (And.intro hm0 (And.intro hm1 hm2))
  have HPU := hid hpu
  have hol0 : own.length ≤ 140737488355328 := by omega
  have holI : (own.length : Int) ≤ 140737488355328 := by omega
  have HBK : Hid (∀ W, Below w.heap.size w W → ∀ a, p0 = some a → own ≠ [] → a.block < W.heap.size) := fun W hW a ha hne => by
    obtain ⟨b, o, e, hbw, _⟩ := row0.at (by rw [opCells_len]; have := List.length_pos_iff.2 hne; omega)
    rw [ha] at e; injection e with e; rw [e]; exact Nat.lt_of_lt_of_le hbw hW.size
  clear wf1 row0 row1 row2 hm0 hm1 hm2 hpu hb27 hz0 wr
  have HB : Hid (Below w.heap.size w w) := Below.refl _ _
  have hsz : w.heap.size ≤ w.heap.size := Nat.le_refl _
  have HFEW := hid (fun W (hW : Below w.heap.size w W) => few_any (w := W) (p1 := p0) (c1 := c0) (p3 := p2) (c3 := c2) (n := own.length) (m := picks.length) (HR1.out.below hW) HW1.out hol0 (Nat.le_trans hc2 HM.out.2.2) hc1 HM.out.2.1 hp1)
  have HNI : Hid (∀ W, Below w.heap.size w W → NewIn W p0 c0 own p1 c1 th) := fun W hW => ⟨HR0.out.below hW, HR1.out.below hW, hp0, hc0, hc1⟩
  cases hf : fewB own.length th picks.length with
  | false =>
    rw [hf] at HFEW
    clear hf
    go_enter Try.func5, Try.ntmps5
    go_wp2_with (first
      | (go_at_call 8; refine begun_any.mono ?_; rintro e w1 ⟨rfl, hb1⟩; first | (have HB2 := hid hb1; have hq2 := HB1.out; clear hq2 hb1) | (have HB1 := hid hb1; clear hb1))
      | (go_at_call 9; refine (HFEW.out _ HB1.out).mono ?_; rintro e w2 ⟨rfl, hw2⟩; rw [hw2]; clear hw2))
    go_ret
    exact ⟨rfl, HB1.out.trans (HB2.out.mono HB1.out.size)⟩
  | true =>
    rw [hf] at HFEW
    have HF := hid hf
    clear hf
    by_cases hn : newE r own th = 0
    · have HN := hid hn
      have HNW := hid (fun W (hW : Below w.heap.size w W) => new_mach hn (HNI.out W hW) hol0 (Nat.le_trans hc1 HM.out.2.1) (fun n hn => (HW1.out n hn).2))
      have HRW := hid (fun (w1 W : World) (hW1 : Below w.heap.size w w1) (hW : Below w1.heap.size w1 W) => rnew_ok hn (HNI.out W (hW1.trans (hW.mono hW1.size))) (Nat.le_trans hc1 HM.out.2.1) HW1.out hol0 w1.heap.size hW.size (HBK.out w1 hW1))
      clear hn
      go_enter Try.func5, Try.ntmps5
      go_upto_region 5 with (first
        | (go_at_call 8; refine begun_any.mono ?_; rintro e w1 ⟨rfl, hb1⟩; have HB1 := hid hb1; clear hb1)
        | (go_at_call 9; refine (HFEW.out _ HB1.out).mono ?_; rintro e w2 ⟨rfl, hw2⟩; rw [hw2]; clear hw2)
        | (go_at_call 10; refine (HNW.out _ HB1.out).mono ?_; rintro e w2 ⟨d, fp, rfl, hm2, hb2⟩; have HM2 := hid hm2; have HB2 := hid hb2; clear hm2 hb2)
        | (go_at_call 19; refine (HRW.out w1 _ HB1.out (Below.allocS HB2.out _)).mono ?_; rintro e w3 ⟨c, rp, rfl, e1, e2, hm3, hr3, hb3⟩; have HM3 := hid hm3; have HR3 := hid hr3; have HB3 := hid hb3; have HE1 := hid e1; have HE2 := hid e2; clear e1 e2 hm3 hr3 hb3))
      have hz2 : w2.heap.size < w3.heap.size := Nat.lt_of_lt_of_le (show w2.heap.size < (w2.alloc (.cells #[.pointer (some ⟨d, 0, none⟩)] 30)).heap.size by simp) HB3.out.size
      have HMW : Hid (Mach w3 w1.heap.size d (newDq r.toNat own th) fp) := HM2.out.below ((Below.allocS (Below.refl _ w2) _).trans (HB3.out.mono (by simp)))
      have HD3 : Hid (w3.heap[w2.heap.size]? = some (.cells #[.pointer (some ⟨d, 0, none⟩)] 30 (0, 0))) := (HB3.out.block _ (by simp)).trans (heap_alloc_new w2 _)
      have HFP : Hid (∀ k, fp k → k < w2.heap.size) := by obtain ⟨_, _, _, _, _, _, _, _, h⟩ := HM2.out; exact h
      have HRP : Hid (∀ k, rp k → k < w3.heap.size) := by obtain ⟨_, _, _, h⟩ := HM3.out; exact h
      have HBW : Hid (Below w1.heap.size w1 (w3.alloc (.cells #[.pointer (some ⟨c.r, 0, none⟩)] 47))) := Below.allocS (below_more HB3.out (Below.allocS HB2.out _) (Nat.le_refl _)) _
      have HJ : Hid (JS c w3.heap.size w2.heap.size d (newDq r.toNat own th) fp (w3.alloc (.cells #[.pointer (some ⟨c.r, 0, none⟩)] 47)) (newDq r.toNat own th) rp) := by
        refine ⟨HM3.out.below (Below.allocS (Below.refl _ w3) _), Sim.new, fun k hk hk2 => ?_, heap_alloc_new w3 _, ?_, fun hk => ?_, fun hk => ?_, fun hk => ?_, fun hk => ?_⟩
        · have h1 := HR3.out k hk; rw [World.size_alloc] at h1; have h2 := HFP.out k hk2; omega
        · exact (Below.heap_alloc _ _ _ hz2).trans HD3.out
        · have := HFP.out _ hk; omega
        · have := HFP.out _ hk; omega
        · have := HRP.out _ hk; omega
        · have h1 := HR3.out _ hk; rw [World.size_alloc] at h1; omega
      have HMS : Hid (Mach (w3.alloc (.cells #[.pointer (some ⟨c.r, 0, none⟩)] 47)) w1.heap.size d (newDq r.toNat own th) fp) := HMW.out.below (Below.allocS (Below.refl _ w3) _)
      have hn0 : c.n0 = w1.heap.size := HE1.out
      have hn1 : w1.heap.size ≤ c.base := by rw [HE2.out]; have := HB2.out.size; simp; omega
      have HN0 := hid hn0
      have HN1 := hid hn1
      clear hn0 hn1 HE1 HE2 HMW HD3 HFP HRP
      generalize w3.heap.size = rc at *
      obtain ⟨W5, hW5⟩ : ∃ W5, W5 = w3.alloc (.cells #[.pointer (some ⟨c.r, 0, none⟩)] 47) := ⟨_, rfl⟩
      rw [← hW5] at HJ HMS HBW ⊢
      clear hW5
      generalize w2.heap.size = dc at *
      obtain ⟨S, hS⟩ : ∃ S, S = newDq r.toNat own th := ⟨_, rfl⟩
      have HEND : Hid (S.doneN (-1) = true ∧ S.doneN (S.hs.length : Int) = true) := by rw [hS]; exact steps_ends _ _ _
      have HGOOD : Hid (Good S ∧ (∀ x ∈ S.hs, x.ops.length ≤ 120) ∧ S.hs.length ≤ 64 ∧ S.count ≤ 1000) := by rw [hS]; exact ⟨good_new HN.out, new_few HN.out HF.out⟩
      have HPS := hid (few_small HN.out HF.out).2
      rw [← hS] at HJ HMS
      clear hS HN HF HM2 HM3 HR3 HB3
      have lr := (Array.getElem?_eq_some_iff.1 HJ.out.hrc).1
      have ld := (Array.getElem?_eq_some_iff.1 HJ.out.hdc).1
      have g1 : W5.cell? ⟨rc, 0, none⟩ = some (.pointer (some ⟨c.r, 0, none⟩)) := cell_of_row W5 rc 0 _ _ _ HJ.out.hrc
      have g2 : W5.cell? ⟨dc, 0, none⟩ = some (.pointer (some ⟨d, 0, none⟩)) := cell_of_row W5 dc 0 _ _ _ HJ.out.hdc
      go_upto_region 9 with (fail)
      have k1 : ∀ w', Below W5.heap.size W5 w' → w'.cell? ⟨rc, 0, none⟩ = some (.pointer (some ⟨c.r, 0, none⟩)) := fun w' hb => (hb.cell (p := ⟨rc, 0, none⟩) lr).trans g1
      have k2 : ∀ w', Below W5.heap.size W5 w' → w'.cell? ⟨dc, 0, none⟩ = some (.pointer (some ⟨d, 0, none⟩)) := fun w' hb => (hb.cell (p := ⟨dc, 0, none⟩) ld).trans g2
      clear g1 g2
      have C13 := hid (fun w' (hb : Below W5.heap.size W5 w') => mach_workers (HMS.out.below hb))
      have C20 := hid (fun w' (hb : Below W5.heap.size W5 w') => rmach_workers (HJ.out.m.below hb) HJ.out.s)
      have C16 := hid (fun w' (hb : Below W5.heap.size W5 w') (n : Int) => mach_done (HMS.out.below hb) HGOOD.out.2.2.1 n)
      have CRUN := hid (fun w' (hb : Below W5.heap.size W5 w') => run21_any (w := w') (w0 := w1) (d := d) (J := JP c rc dc d) (js_steady (Nat.le_of_eq HN0.out)) (each21 (Nat.le_of_eq HN0.out) HN1.out) (HMS.out.below hb) HGOOD.out.1 ⟨S, rp, HJ.out.below2 hb⟩ HGOOD.out.2.2.1 HGOOD.out.2.1 HGOOD.out.2.2.2 (below_more hb HBW.out (Nat.le_refl _)) p2 c2 picks HPS.out HPU.out (HR2.out.below HB1.out))
      generalize hnw : S.hs.length = nw at *
      have hww : ((nw : Int) != nw) = false := by simp
      clear hnw
      go_region_held3 (fun w' => Below W5.heap.size W5 w') (first | assumption | exact below_drewN (Below.refl _ W5) _ | exact (Below.refl _ _).drew)
        (first
          | (go_at_call 13; refine (C13.out _ (by first | assumption | exact below_drewN (Below.refl _ W5) _ | exact (Below.refl _ W5).drew)).mono ?_; rintro e w6 ⟨rfl, hw6⟩; subst hw6)
          | (go_at_call 20; refine (C20.out _ (by first | assumption | exact below_drewN (Below.refl _ W5) _ | exact (Below.refl _ W5).drew)).mono ?_; rintro e w6 ⟨rfl, hw6⟩; subst hw6)
          | (go_at_call 16; refine (C16.out _ (by first | assumption | exact below_drewN (Below.refl _ W5) _ | exact (Below.refl _ W5).drew) _).mono ?_; rintro e w6 ⟨rfl, q7, rfl⟩; first | rw [HEND.out.1] | rw [HEND.out.2]))
      have hw9 : ∀ q, Below W5.heap.size W5 (W5.drewN q) := fun q => below_drewN (Below.refl W5.heap.size W5) q
      have g2 := fun q => k2 _ (hw9 q)
      have HW9 := hid hw9
      clear k1 k2 hw9
      go_wp2_with (go_at_call 11; refine (CRUN.out _ (HW9.out _)).mono ?_; rintro e w7 ⟨rfl, S', fp', hri, hdone⟩; have HRI := hid hri.b; clear hri hdone)
      go_ret
      exact ⟨rfl, below_more HRI.out HB1.out (Nat.le_refl _)⟩
    · have HNW := hid (fun W (hW : Below w.heap.size w W) => new_not hn (HNI.out W hW) hol0 (Nat.le_trans hc1 HM.out.2.1) (fun n hn => (HW1.out n hn).2))
      have HRW := hid (fun (w1 W : World) (hW1 : Below w.heap.size w w1) (hW : Below w1.heap.size w1 W) => rnew_not hn (HNI.out W (hW1.trans (hW.mono hW1.size))) (Nat.le_trans hc1 HM.out.2.1) HW1.out hol0 w1.heap.size hW.size (HBK.out w1 hW1))
      have hne : (newE r own th != 0) = true := by simpa using hn
      have hee : (newE r own th != newE r own th) = false := by simp
      generalize newE r own th = en at *
      clear hn
      go_enter Try.func5, Try.ntmps5
      go_upto_region 5 with (first
        | (go_at_call 8; refine begun_any.mono ?_; rintro e w1 ⟨rfl, hb1⟩; have HB1 := hid hb1; clear hb1)
        | (go_at_call 9; refine (HFEW.out _ HB1.out).mono ?_; rintro e w2 ⟨rfl, hw2⟩; rw [hw2]; clear hw2)
        | (go_at_call 10; refine (HNW.out _ HB1.out).mono ?_; rintro e w2 ⟨rfl, hb2⟩; have HB2 := hid hb2; clear hb2)
        | (go_at_call 19; refine (HRW.out w1 _ HB1.out (Below.allocS HB2.out _)).mono ?_; rintro e w3 ⟨rfl, hb3⟩; have HB3 := hid hb3; clear hb3))
      have hz2 := Nat.lt_of_lt_of_le (show w2.heap.size < (w2.alloc (.cells #[.pointer none] 30)).heap.size by simp) HB3.out.size
      have g1 : w3.cell? ⟨w2.heap.size, 0, none⟩ = some (.pointer none) := (HB3.out.cell (p := ⟨w2.heap.size, 0, none⟩) (by simp)).trans (cell_of_row _ _ 0 _ _ _ (heap_alloc_new w2 _))
      go_wp2_with fail
      go_ret
      exact ⟨rfl, Below.allocS (below_more HB3.out (Below.allocS (below_more HB2.out HB1.out (Nat.le_refl _)) _) (Nat.le_refl _)) _⟩
end Go.Proofs.Ytpgdpddmgljpmaa
