/-
  The walk of CellsMemory.
-/
import Derived.Test.YtfpgdaefdpjcmaaMem17
import Derived.Test.YtfpgdaefdpjcmaaOpenC
namespace Go.Proofs.Ytfpgdaefdpjcmaa
open Go.RowKit
variable {W w : World}

theorem NewTell.ok {hd : Value → Int → Obj} {l : List Ce} {e : Ending} {w' : World} (h0 : newE l = 0) (h : NewTell w hd l e w') :
    ∃ d fp, e = .returned (.tuple #[.pointer (some ⟨d, 0, none⟩), i64 0]) ∧ MMach w' w.heap.size d hd ⟨l, 0⟩ fp ∧ (∀ k, fp k → w.heap.size ≤ k) ∧ Below w.heap.size w w' := by
  rcases h with ⟨_, h⟩ | ⟨h, _⟩
  · exact h
  · exact absurd h0 h
theorem NewTell.no {hd : Value → Int → Obj} {l : List Ce} {e : Ending} {w' : World} (h0 : newE l ≠ 0) (h : NewTell w hd l e w') : e = .returned (.tuple #[.pointer none, i64 (newE l)]) ∧ Below w.heap.size w w' := by
  rcases h with ⟨h, _⟩ | ⟨_, h⟩
  · exact absurd h h0
  · exact h

def DoBlk (W : World) (b : Nat) (wk : Int) (a : Ac) : Prop := W.heap[b]? = some (.cells #[i64 wk, i64 a.kind, i64 a.cell, i64 a.old, i64 a.new] 44 (0, 0))
theorem DoBlk.facts {b : Nat} {wk : Int} {a : Ac} (h : DoBlk W b wk a) : W.cell? ⟨b, 0, none⟩ = some (i64 wk) ∧ W.cell? ⟨b, 1, none⟩ = some (i64 a.kind) ∧ W.cell? ⟨b, 2, none⟩ = some (i64 a.cell) ∧ W.cell? ⟨b, 3, none⟩ = some (i64 a.old) ∧ W.cell? ⟨b, 4, none⟩ = some (i64 a.new) :=
  ⟨cell_of_row W b 0 _ _ _ h, cell_of_row W b 1 _ _ _ h, cell_of_row W b 2 _ _ _ h, cell_of_row W b 3 _ _ _ h, cell_of_row W b 4 _ _ _ h⟩
theorem DoBlk.below {b : Nat} {wk : Int} {a : Ac} {W' : World} (h : DoBlk W b wk a) (hb : Below W.heap.size W W') : DoBlk W' b wk a := (hb.block _ (Array.getElem?_eq_some_iff.1 h).1).trans h
theorem DoBlk.turn {b : Nat} {wk : Int} {a : Ac} {W' : World} {fp : Nat → Prop} (h : DoBlk W b wk a) (ht : Turn fp W W') (hn : ¬ fp b) : DoBlk W' b wk a := (ht.block _ (Array.getElem?_eq_some_iff.1 h).1 hn).trans h

set_option maxRecDepth 100000 in
set_option maxHeartbeats 2000000 in
theorem mem_none (w : World) (p : Option Addr) (c : Nat) (zs : List CeR) (hc : zs.length ≤ c) (hm : c ≤ maxLen) (hrow : Row w p (ceRow zs)) (hsl : ∀ z ∈ zs, SlAt w z.p z.c z.x.came) (hcm : ∀ z ∈ zs, z.x.came.length ≤ 17592186043904) (u : Value)
    (h : fewP zs = false ∨ newE (zs.map CeR.x) ≠ 0) : Calls Try.prog 10 #[.slice p zs.length c, u] w fun e w' => e = .returned (.bool true) ∧ Below w.heap.size w w' := by
  have HLV := hid (live_any w)
  have HFW := hid (fun w1 (hb : Below w.heap.size w w1) => few_any p c zs w1 hc hm (hrow.below hb))
  have HN := hid (fun w1 (hb : Below w.heap.size w w1) => new_any p c zs w1 hc hm (hrow.below hb) (fun z hz => (hsl z hz).below hb) hcm)
  have HRN := hid (fun w1 (hb : Below w.heap.size w w1) => rnew_any p c zs w1 hc hm (hrow.below hb) (fun z hz => (hsl z hz).below hb) hcm)
  cases hf : fewP zs with
  | false =>
    rw [hf] at HFW
    go_enter Try.func10, Try.ntmps10
    go_wp2_with (first
      | (go_at_call 11; refine HLV.out.mono ?_; rintro e w1 ⟨rfl, hb1⟩; have HB1 := hid hb1; clear hb1)
      | (go_at_call 12; refine (HFW.out _ HB1.out).mono ?_; rintro e w2 ⟨rfl, hb2⟩; have HB2 := hid hb2; clear hb2))
    go_ret
    exact ⟨rfl, below_more HB2.out HB1.out (Nat.le_refl _)⟩
  | true =>
    have hn := h.resolve_left (by rw [hf]; simp)
    rw [hf] at HFW
    have hne : (newE (zs.map CeR.x) != newE (zs.map CeR.x)) = false := by simp
    have HNN := hid hn
    obtain ⟨E, hE⟩ : ∃ E, E = newE (zs.map CeR.x) := ⟨_, rfl⟩
    have HE := hid hE
    rw [← hE] at hne
    clear h hn hf hE
    go_enter Try.func10, Try.ntmps10
    go_wp2_with (first
      | (go_at_call 11; refine HLV.out.mono ?_; rintro e w1 ⟨rfl, hb1⟩; have HB1 := hid hb1; clear hb1)
      | (go_at_call 12; refine (HFW.out _ HB1.out).mono ?_; rintro e w2 ⟨rfl, hb2⟩; have HB2 := hid (below_more hb2 HB1.out (Nat.le_refl _)); clear hb2)
      | (go_at_call 27; refine (HN.out _ HB2.out).mono ?_; rintro e w3 hN; obtain ⟨rfl, hb3⟩ := NewTell.no HNN.out hN; rw [← HE.out]; have HB3 := hid (below_more hb3 HB2.out (Nat.le_refl _)); clear hb3 hN)
      | (go_at_call 28; refine (HRN.out _ HB3.out).mono ?_; rintro e w4 hN; obtain ⟨rfl, hb4⟩ := NewTell.no HNN.out hN; rw [← HE.out]; have HB4 := hid (below_more hb4 HB3.out (Nat.le_refl _)); clear hb4 hN))
    go_ret
    exact ⟨rfl, HB4.out⟩

set_option maxRecDepth 100000 in
set_option maxHeartbeats 4000000 in
theorem mem_core (w : World) (p : Option Addr) (c : Nat) (zs : List CeR) (hc : zs.length ≤ c) (hm : c ≤ maxLen) (hrow : Row w p (ceRow zs)) (hsl : ∀ z ∈ zs, SlAt w z.p z.c z.x.came) (hcm : ∀ z ∈ zs, z.x.came.length ≤ 17592186043904)
    (o : Option Addr) (c2 NN : Nat) (ds : List DoR) (hc2 : ds.length ≤ c2) (hm2 : c2 ≤ maxLen) (hrow2 : Row w o (doRow ds)) (hNN : NN = ds.length ∧ ds.length ≤ 200 ∨ NN = 200 ∧ 200 < ds.length)
    (hf : fewP zs = true) (hn : newE (zs.map CeR.x) = 0) : Calls Try.prog 10 #[.slice p zs.length c, .slice o ds.length c2] w fun e w' => e = .returned (.bool true) ∧ Below w.heap.size w w' := by
  have HLV := hid (live_any w)
  have HFW := hid (fun w1 (hb : Below w.heap.size w w1) => few_any p c zs w1 hc hm (hrow.below hb))
  have HN := hid (fun w1 (hb : Below w.heap.size w w1) => new_any p c zs w1 hc hm (hrow.below hb) (fun z hz => (hsl z hz).below hb) hcm)
  have HRN := hid (fun w1 (hb : Below w.heap.size w w1) => rnew_any p c zs w1 hc hm (hrow.below hb) (fun z hz => (hsl z hz).below hb) hcm)
  rw [hf] at HFW
  have HNE := hid hn
  have HR2 := hid hrow2
  have hzl : zs.length ≤ 200 := by simp [fewP] at hf; exact hf.1
  clear hf hn hrow hrow2 hsl hcm
  have hmm := hm2
  unfold maxLen at hmm
  have hle : NN ≤ ds.length := by omega
  rcases hNN with ⟨hN, hl⟩ | ⟨hN, hl⟩
  all_goals
    have HNN := hid hN
    clear hN
    go_enter Try.func10, Try.ntmps10
    go_wp2_with (first
      | (go_at_call 11; refine HLV.out.mono ?_; rintro e w1 ⟨rfl, hb1⟩; have HB1 := hid hb1; clear hb1)
      | (go_at_call 12; refine (HFW.out _ HB1.out).mono ?_; rintro e w2 ⟨rfl, hb2⟩; have HB2 := hid (below_more hb2 HB1.out (Nat.le_refl _)); clear hb2)
      | (go_at_call 27; refine (HN.out _ HB2.out).mono ?_; rintro e w3 hN; obtain ⟨d, fp, rfl, hM, hfp, hb3⟩ := NewTell.ok HNE.out hN; have HM3 := hid hM; have HF3 := hid hfp; have HB3 := hid (below_more hb3 HB2.out (Nat.le_refl _)); clear hb3 hN hM hfp)
      | (go_at_call 28; refine (HRN.out _ HB3.out).mono ?_; rintro e w4 hN; obtain ⟨d2, rp, rfl, hM, hfp, hb4⟩ := NewTell.ok HNE.out hN; have HM4 := hid hM; have HF4 := hid hfp; have HB34 := hid hb4; have HB4 := hid (below_more hb4 HB3.out (Nat.le_refl _)); clear hb4 hN hM hfp))
    have hJ0 : MJ w d ⟨zs.map CeR.x, 0⟩ fp d2 ⟨zs.map CeR.x, 0⟩ rp w4 :=
      ⟨(HM3.out.below HB34.out).lower (HB2.out.size), HM4.out.lower HB3.out.size, fun k hk hk2 => by have h1 := HM3.out.lt k hk; have h2 := HF4.out k hk2; omega, HB4.out⟩
    have HJ0 := hid hJ0
    have hz0 : (zs.map CeR.x).length ≤ 200 := by simpa using hzl
    have HZ0 := hid hz0
    clear hJ0 hz0 HB34 HB4 HM4 HF4 HM3 HF3 HB3 HB2 HB1 HN HRN HLV HFW HNE
    go_loopw [5, 49] (fun v i wr => ∃ (k d : Nat) (S : Mem) (fp rp : Nat → Prop), v = .pointer (some ⟨d, 0, none⟩) ∧ i = .int .i64 k ∧ k ≤ NN ∧ MJ w d S fp d2 S rp wr ∧ S.cs.length ≤ 200) (fun _ i _ => NN - (intOf i).toNat)
    case atStart => exact ⟨0, d, ⟨zs.map CeR.x, 0⟩, fp, rp, rfl, rfl, Nat.zero_le _, HJ0.out, HZ0.out⟩
    case round =>
      clear HJ0 HZ0
      obtain ⟨k, d, S, fp, rp, rfl, rfl, hk, hJ, hSl⟩ := hrel
      have HJ := hid hJ
      by_cases hlt : k < NN
      · have hlt1 : k < ds.length := by omega
        have hlt2 : (k : Int) < 200 := by have := HNN.out; omega
        have hlt3 : (k : Int) < ds.length := by omega
        obtain ⟨b1, o1, rfl, hb1, _⟩ := HR2.out.at (by rw [doRow_len]; omega)
        obtain ⟨r0, r1, r2, r3, r4⟩ := do_cells (HR2.out.below hJ.b) k hlt1
        generalize ds[k] = dd at *
        obtain ⟨wk, ak, ac, ao, an⟩ := dd
        dsimp only at *
        have hB5 : Below wr.heap.size wr (wr.alloc (.cells #[i64 wk, i64 ak, i64 ac, i64 ao, i64 an] 44)) := (Below.refl _ _).alloc (Nat.le_refl _) _
        have hD5 : DoBlk (wr.alloc (.cells #[i64 wk, i64 ak, i64 ac, i64 ao, i64 an] 44)) wr.heap.size wk ⟨ak, ac, ao, an⟩ := heap_alloc_new wr _
        have HD5 := hid hD5
        have HB5 := hid hB5
        have hnf : ¬ fp wr.heap.size := fun h => by have := hJ.m.lt _ h; omega
        have hnr : ¬ rp wr.heap.size := fun h => by have := hJ.r.lt _ h; omega
        have HCL := hid (fun w1 (hb : Below wr.heap.size wr w1) => mclone_any (hJ.m.below hb) (by omega))
        have HDO := hid (fun w1 (hb : Below wr.heap.size wr w1) => do_any (hJ.m.below hb) wk ⟨ak, ac, ao, an⟩)
        unfold DoTell Ac.val at HDO
        unfold CloneTell at HCL
        dsimp only at HDO
        clear hJ hB5 hD5
        by_cases h7 : (k : Int) % 7 = 3
        · have e7 : ((k : Int) % 7 == 3) = true := by simpa using h7
          clear h7
          go_upto_region 20 with (first
            | (go_at_call 26; (with_reducible refine (HCL.out _ HB5.out).mono ?_); rintro e w5 ⟨d', fp', rfl, hm5, hf5, hb5⟩; have HM5 := hid hm5; have HF5 := hid hf5; have HC5 := hid hb5; obtain ⟨y0, y1, y2, y3, y4⟩ := (HD5.out.below hb5).facts; dsimp only at y0 y1 y2 y3 y4; have HBB := hid (below_more hb5 HB5.out (Nat.le_refl _)); clear hm5 hf5 hb5)
            | (go_at_call 22; (with_reducible refine (HDO.out _ HBB.out).mono ?_); rintro e w6 ⟨rfl, fpx, _, _, ht6, hb6⟩; have HT6 := hid ht6; have HB6 := hid hb6; clear ht6 hb6 y0 y1 y2 y3 y4))
          have hz5 : (wr.alloc (.cells #[i64 wk, i64 ak, i64 ac, i64 ao, i64 an] 44)).heap.size = wr.heap.size + 1 := by simp
          have HJ1 : Hid (MJ w d' S fp' d2 S rp w6) := (HJ.out.below HB5.out).clone HC5.out HM5.out HF5.out HT6.out HB6.out
          have HD1 : Hid (DoBlk w6 wr.heap.size wk ⟨ak, ac, ao, an⟩) := (HD5.out.below HC5.out).turn HT6.out hnf
          have HN1 : Hid (¬ fp' wr.heap.size) := fun h => by have := HF5.out _ h; omega
          clear hz5 HM5 HF5 HC5 HBB HT6 HB6
          obtain ⟨d1, rfl⟩ : ∃ x, x = d' := ⟨_, rfl⟩
          obtain ⟨fp1, rfl⟩ : ∃ x, x = fp' := ⟨_, rfl⟩
          obtain ⟨W1, rfl⟩ : ∃ x, x = w6 := ⟨_, rfl⟩
          clear HDO HCL hnf e7 HD5 HB5 r0 r1 r2 r3 r4
          have HWM := hid (fun w' (hb : Below W1.heap.size W1 w') => mwaits_any (HJ1.out.m.below hb) wk ⟨ak, ac, ao, an⟩)
          have HWR := hid (fun w' (hb : Below W1.heap.size W1 w') => rwaits_any (HJ1.out.r.below hb) wk ⟨ak, ac, ao, an⟩)
          have HDM := hid (fun w' (hb : Below W1.heap.size W1 w') => do_any (HJ1.out.m.below hb) wk ⟨ak, ac, ao, an⟩)
          have HDR := hid (fun (w' : World) (fp' : Nat → Prop) (h : MJ w d1 (S.step wk ⟨ak, ac, ao, an⟩) fp' d2 S rp w') => rdo_any h.r wk ⟨ak, ac, ao, an⟩)
          unfold DoTell at HDM HDR
          unfold Ac.val at HWM HWR HDM HDR
          dsimp only at HWM HWR HDM HDR
          generalize ((S.look wk ⟨ak, ac, ao, an⟩).2.2 == 231) = bb at HWM HWR
          have f0 : ∀ w', Below W1.heap.size W1 w' → w'.cell? ⟨wr.heap.size, 0, none⟩ = some (i64 wk) := fun w' hb => (HD1.out.below hb).facts.1
          have f1 : ∀ w', Below W1.heap.size W1 w' → w'.cell? ⟨wr.heap.size, 1, none⟩ = some (i64 ak) := fun w' hb => (HD1.out.below hb).facts.2.1
          have f2 : ∀ w', Below W1.heap.size W1 w' → w'.cell? ⟨wr.heap.size, 2, none⟩ = some (i64 ac) := fun w' hb => (HD1.out.below hb).facts.2.2.1
          have f3 : ∀ w', Below W1.heap.size W1 w' → w'.cell? ⟨wr.heap.size, 3, none⟩ = some (i64 ao) := fun w' hb => (HD1.out.below hb).facts.2.2.2.1
          have f4 : ∀ w', Below W1.heap.size W1 w' → w'.cell? ⟨wr.heap.size, 4, none⟩ = some (i64 an) := fun w' hb => (HD1.out.below hb).facts.2.2.2.2
          have hS0 : Below W1.heap.size W1 W1.drew := (Below.refl _ _).drew
          go_region_held3 (fun w' => Below W1.heap.size W1 w') (first | (with_reducible assumption) | exact (Below.refl _ _).drew)
            (first
              | (go_at_call 24; (with_reducible refine (HWM.out _ (by assumption)).mono ?_); rintro e w7 ⟨rfl, hb7⟩; have hq7 : Below W1.heap.size W1 w7 := below_more hb7 (by assumption) (Nat.le_refl _))
              | (go_at_call 29; (with_reducible refine (HWR.out _ (by assumption)).mono ?_); rintro e w7 ⟨rfl, hb7⟩; have hq7 : Below W1.heap.size W1 w7 := below_more hb7 (by assumption) (Nat.le_refl _)))
          all_goals
            have HQ7 := hid hq7
            have hJ7 := HJ1.out.below hq7
            have hD7 := HD1.out.below hq7
            have HJ7 := hid hJ7
            have HD7 := hid hD7
            obtain ⟨y0, y1, y2, y3, y4⟩ := hD7.facts
            dsimp only at y0 y1 y2 y3 y4
            clear hq7 hJ7 hD7 f0 f1 f2 f3 f4 hS0 HWM HWR
            have e1 : ((S.tell wk ⟨ak, ac, ao, an⟩).1 != (S.tell wk ⟨ak, ac, ao, an⟩).1) = false := by simp
            have e2 : ((S.tell wk ⟨ak, ac, ao, an⟩).2 != (S.tell wk ⟨ak, ac, ao, an⟩).2) = false := by simp
            go_wp2_with (first
              | (go_at_call 22; (with_reducible refine (HDM.out _ HQ7.out).mono ?_); rintro e w8 ⟨rfl, fp8, hm8, hf8, ht8, hb8⟩; have HJ8 := hid (HJ7.out.doM hm8 hf8 ht8 hb8); obtain ⟨z0, z1, z2, z3, z4⟩ := (HD7.out.turn ht8 HN1.out).facts; dsimp only at z0 z1 z2 z3 z4; clear hm8 hf8 ht8 hb8 y0 y1 y2 y3 y4)
              | (go_at_call 30; (with_reducible refine (HDR.out _ _ HJ8.out).mono ?_); rintro e w9 ⟨rfl, rp9, hm9, hf9, ht9, hb9⟩; have HJ9 := hid (HJ8.out.doR hm9 hf9 ht9 hb9); clear hm9 hf9 ht9 hb9 z0 z1 z2 z3 z4))
            go_roundw
            case rel => exact ⟨k + 1, d1, S.step wk ⟨ak, ac, ao, an⟩, fp8, rp9, rfl, by go_num, by omega, HJ9.out, by rw [Mem.step_len]; exact hSl⟩
            case measure => simp [intOf]; omega
        · have e7 : ((k : Int) % 7 == 3) = false := by simpa using h7
          clear h7
          go_upto_region 20 with (fail)
          have HJ1 : Hid (MJ w d S fp d2 S rp (wr.alloc (.cells #[i64 wk, i64 ak, i64 ac, i64 ao, i64 an] 44))) := HJ.out.below HB5.out
          have HN1 : Hid (¬ fp wr.heap.size) := hnf
          have HD1 := HD5
          clear HDO HCL hnf e7 HD5 HB5 r0 r1 r2 r3 r4 HJ
          generalize wr.alloc (.cells #[i64 wk, i64 ak, i64 ac, i64 ao, i64 an] 44) = W1 at *
          obtain ⟨d1, rfl⟩ : ∃ x, x = d := ⟨_, rfl⟩
          obtain ⟨fp1, rfl⟩ : ∃ x, x = fp := ⟨_, rfl⟩
          have HWM := hid (fun w' (hb : Below W1.heap.size W1 w') => mwaits_any (HJ1.out.m.below hb) wk ⟨ak, ac, ao, an⟩)
          have HWR := hid (fun w' (hb : Below W1.heap.size W1 w') => rwaits_any (HJ1.out.r.below hb) wk ⟨ak, ac, ao, an⟩)
          have HDM := hid (fun w' (hb : Below W1.heap.size W1 w') => do_any (HJ1.out.m.below hb) wk ⟨ak, ac, ao, an⟩)
          have HDR := hid (fun (w' : World) (fp' : Nat → Prop) (h : MJ w d1 (S.step wk ⟨ak, ac, ao, an⟩) fp' d2 S rp w') => rdo_any h.r wk ⟨ak, ac, ao, an⟩)
          unfold DoTell at HDM HDR
          unfold Ac.val at HWM HWR HDM HDR
          dsimp only at HWM HWR HDM HDR
          generalize ((S.look wk ⟨ak, ac, ao, an⟩).2.2 == 231) = bb at HWM HWR
          have f0 : ∀ w', Below W1.heap.size W1 w' → w'.cell? ⟨wr.heap.size, 0, none⟩ = some (i64 wk) := fun w' hb => (HD1.out.below hb).facts.1
          have f1 : ∀ w', Below W1.heap.size W1 w' → w'.cell? ⟨wr.heap.size, 1, none⟩ = some (i64 ak) := fun w' hb => (HD1.out.below hb).facts.2.1
          have f2 : ∀ w', Below W1.heap.size W1 w' → w'.cell? ⟨wr.heap.size, 2, none⟩ = some (i64 ac) := fun w' hb => (HD1.out.below hb).facts.2.2.1
          have f3 : ∀ w', Below W1.heap.size W1 w' → w'.cell? ⟨wr.heap.size, 3, none⟩ = some (i64 ao) := fun w' hb => (HD1.out.below hb).facts.2.2.2.1
          have f4 : ∀ w', Below W1.heap.size W1 w' → w'.cell? ⟨wr.heap.size, 4, none⟩ = some (i64 an) := fun w' hb => (HD1.out.below hb).facts.2.2.2.2
          have hS0 : Below W1.heap.size W1 W1.drew := (Below.refl _ _).drew
          go_region_held3 (fun w' => Below W1.heap.size W1 w') (first | (with_reducible assumption) | exact (Below.refl _ _).drew)
            (first
              | (go_at_call 24; (with_reducible refine (HWM.out _ (by assumption)).mono ?_); rintro e w7 ⟨rfl, hb7⟩; have hq7 : Below W1.heap.size W1 w7 := below_more hb7 (by assumption) (Nat.le_refl _))
              | (go_at_call 29; (with_reducible refine (HWR.out _ (by assumption)).mono ?_); rintro e w7 ⟨rfl, hb7⟩; have hq7 : Below W1.heap.size W1 w7 := below_more hb7 (by assumption) (Nat.le_refl _)))
          all_goals
            have HQ7 := hid hq7
            have hJ7 := HJ1.out.below hq7
            have hD7 := HD1.out.below hq7
            have HJ7 := hid hJ7
            have HD7 := hid hD7
            obtain ⟨y0, y1, y2, y3, y4⟩ := hD7.facts
            dsimp only at y0 y1 y2 y3 y4
            clear hq7 hJ7 hD7 f0 f1 f2 f3 f4 hS0 HWM HWR
            have e1 : ((S.tell wk ⟨ak, ac, ao, an⟩).1 != (S.tell wk ⟨ak, ac, ao, an⟩).1) = false := by simp
            have e2 : ((S.tell wk ⟨ak, ac, ao, an⟩).2 != (S.tell wk ⟨ak, ac, ao, an⟩).2) = false := by simp
            go_wp2_with (first
              | (go_at_call 22; (with_reducible refine (HDM.out _ HQ7.out).mono ?_); rintro e w8 ⟨rfl, fp8, hm8, hf8, ht8, hb8⟩; have HJ8 := hid (HJ7.out.doM hm8 hf8 ht8 hb8); obtain ⟨z0, z1, z2, z3, z4⟩ := (HD7.out.turn ht8 HN1.out).facts; dsimp only at z0 z1 z2 z3 z4; clear hm8 hf8 ht8 hb8 y0 y1 y2 y3 y4)
              | (go_at_call 30; (with_reducible refine (HDR.out _ _ HJ8.out).mono ?_); rintro e w9 ⟨rfl, rp9, hm9, hf9, ht9, hb9⟩; have HJ9 := hid (HJ8.out.doR hm9 hf9 ht9 hb9); clear hm9 hf9 ht9 hb9 z0 z1 z2 z3 z4))
            go_roundw
            case rel => exact ⟨k + 1, d1, S.step wk ⟨ak, ac, ao, an⟩, fp8, rp9, rfl, by go_num, by omega, HJ9.out, by rw [Mem.step_len]; exact hSl⟩
            case measure => simp [intOf]; omega
      · have hge : ds.length ≤ k ∨ 200 ≤ (k : Int) := by have := HNN.out; omega
        have HSM : Hid (Calls Try.prog 31 #[.pointer (some ⟨d, 0, none⟩), .pointer (some ⟨d2, 0, none⟩)] wr fun e w' => e = .returned (.bool true) ∧ Below wr.heap.size wr w') := by
          obtain ⟨v, ys, hr⟩ := HJ.out.r
          exact lsame_any HJ.out.m hr (by omega)
        have HB := hid HJ.out.b
        clear HJ hJ
        first
          | (have hge1 : ds.length ≤ k := by have := HNN.out; omega
             clear hge
             go_wp2_with (go_at_call 31; (with_reducible refine HSM.out.mono ?_); rintro e w9 ⟨rfl, hb9⟩; have HB9 := hid hb9; clear hb9)
             go_ret
             exact ⟨rfl, below_more HB9.out HB.out (Nat.le_refl _)⟩)
          | (have hge1 : 200 ≤ (k : Int) := by have := HNN.out; omega
             clear hge
             go_wp2_with (go_at_call 31; (with_reducible refine HSM.out.mono ?_); rintro e w9 ⟨rfl, hb9⟩; have HB9 := hid hb9; clear hb9)
             go_ret
             exact ⟨rfl, below_more HB9.out HB.out (Nat.le_refl _)⟩)
theorem mem_walk (w : World) (p : Option Addr) (c : Nat) (zs : List CeR)
    (ok1 : zs.length ≤ c ∧ c ≤ maxLen ∧ (p = none → c = 0) ∧ Row w p (zs.flatMap CeR.cells) ∧ (∀ x ∈ zs, CeR.ok w x) ∧ c * Try.prog.bytesOf 24 ≤ 140737488351232)
    (o : Option Addr) (c2 : Nat) (ds : List DoR)
    (ok2 : ds.length ≤ c2 ∧ c2 ≤ maxLen ∧ (o = none → c2 = 0) ∧ Row w o (ds.flatMap DoR.cells) ∧ (∀ x ∈ ds, x.ok) ∧ c2 * Try.prog.bytesOf 44 ≤ 140737488351232) :
    Calls Try.prog 10 #[.slice p zs.length c, .slice o ds.length c2] w fun e w' => e = .returned (.bool true) ∧ Below w.heap.size w w' := by
  obtain ⟨a1, a2, _, a4, a5, _⟩ := ok1
  obtain ⟨b1, b2, _, b4, _, _⟩ := ok2
  by_cases h : fewP zs = false ∨ newE (zs.map CeR.x) ≠ 0
  · exact mem_none w p c zs a1 a2 a4 (fun z hz => (a5 z hz).2.1) (fun z hz => (a5 z hz).2.2) _ h
  · have hf : fewP zs = true := by
      cases hfz : fewP zs with
      | true => rfl
      | false => exact absurd (.inl hfz) h
    have hn : newE (zs.map CeR.x) = 0 := Classical.byContradiction (fun hx => h (.inr hx))
    by_cases hl : ds.length ≤ 200
    · exact mem_core w p c zs a1 a2 a4 (fun z hz => (a5 z hz).2.1) (fun z hz => (a5 z hz).2.2) o c2 ds.length ds b1 b2 b4 (.inl ⟨rfl, hl⟩) hf hn
    · exact mem_core w p c zs a1 a2 a4 (fun z hz => (a5 z hz).2.1) (fun z hz => (a5 z hz).2.2) o c2 200 ds b1 b2 b4 (.inr ⟨rfl, by omega⟩) hf hn
end Go.Proofs.Ytfpgdaefdpjcmaa
