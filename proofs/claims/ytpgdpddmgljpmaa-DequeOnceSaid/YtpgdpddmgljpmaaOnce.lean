/-
  The walk of DequeOnce.
-/
import Derived.Test.YtpgdpddmgljpmaaOrder
import Derived.Test.YtpgdpddmgljpmaaD19
namespace Go.Proofs.Ytpgdpddmgljpmaa
open Go.RowKit
variable {w w' : World}

theorem range_flatMap {α β : Type} (f : α → List β) : ∀ (l : List α) (g : Nat → List β), (∀ j (h : j < l.length), g j = f l[j]) → (List.range l.length).flatMap g = l.flatMap f
  | [], _, _ => rfl
  | a :: l, g, h => by
    rw [List.length_cons, List.range_succ_eq_map, List.flatMap_cons, List.flatMap_map, List.flatMap_cons]
    congr 1
    · exact h 0 (by simp)
    · exact range_flatMap f l (fun j => g (j + 1)) (fun j hj => h (j + 1) (by simpa using hj))
/-- What the thieves up to q took. -/
def took (S : Dq) (q : Nat) : List Int := (List.range (q - 1)).flatMap (fun j : Nat => okvals (S.answers ((j : Int) + 1)))
theorem took_succ (S : Dq) (q : Nat) (h : 1 ≤ q) : took S (q + 1) = took S q ++ okvals (S.answers q) := by
  unfold took
  obtain ⟨j, rfl⟩ : ∃ j, q = j + 1 := ⟨q - 1, by omega⟩
  rw [show j + 1 + 1 - 1 = j + 1 by omega, show j + 1 - 1 = j by omega, List.range_succ, List.flatMap_append]
  simp
theorem once_end {own : List (Int × Int)} {S : Dq} (h : OnceI own S) (hd : S.doneN 0 = true) :
    (S.answers 0).length = own.length ∧ ∀ v, (puts own (S.answers 0)).count v = (gots own (S.answers 0) ++ took S S.hs.length ++ S.left).count v := by
  obtain ⟨L, p, x0, th, H, hops, hcnt⟩ := h
  have hdx : x0.said.length = x0.ops.length := by
    unfold Dq.doneN at hd
    rw [H.hs] at hd
    simpa [Hd.done] using hd
  have ha : S.answers 0 = x0.said := by unfold Dq.answers; rw [H.hs]; simp
  obtain ⟨hp, hc⟩ := H.all_done hdx
  have ht : took S S.hs.length = th.flatMap (fun x => okvals x.said) := by
    unfold took
    rw [H.hs, List.length_cons, Nat.add_sub_cancel]
    refine range_flatMap _ _ _ (fun j hj => ?_)
    congr 1
    unfold Dq.answers
    rw [H.hs, if_pos (by simp; omega)]
    have : ((j : Int) + 1).toNat = j + 1 := by omega
    rw [this]
    simp [hj]
  refine ⟨by rw [ha, hdx, hops], fun v => ?_⟩
  rw [ha, ht, List.count_append, List.count_append]
  have := hcnt v
  rw [hp, hc] at this
  simp at this ⊢; omega
theorem puts_take {own : List (Int × Int)} {la : List (Bool × Int)} (k : Nat) (h1 : k < own.length) (h2 : k < la.length) : puts own (la.take (k + 1)) = puts own (la.take k) ++ (if la[k].1 && own[k].1 == 1 then [own[k].2] else []) := by
  rw [take_succ la k h2]
  exact puts_snoc _ (by rw [List.length_take, show min k la.length = k by omega]; exact List.getElem?_eq_getElem h1)
theorem gots_take {own : List (Int × Int)} {la : List (Bool × Int)} (k : Nat) (h1 : k < own.length) (h2 : k < la.length) : gots own (la.take (k + 1)) = gots own (la.take k) ++ (if la[k].1 && own[k].1 != 1 then [la[k].2] else []) := by
  rw [take_succ la k h2]
  exact gots_snoc _ (by rw [List.length_take, show min k la.length = k by omega]; exact List.getElem?_eq_getElem h1)
theorem puts_len (own : List (Int × Int)) (la : List (Bool × Int)) : (puts own la).length ≤ la.length := by
  unfold puts; rw [List.length_map]; exact Nat.le_trans (List.length_filter_le _ _) (by rw [List.length_zip]; omega)
theorem gots_len (own : List (Int × Int)) (la : List (Bool × Int)) : (gots own la).length ≤ la.length := by
  unfold gots; rw [List.length_map]; exact Nat.le_trans (List.length_filter_le _ _) (by rw [List.length_zip]; omega)
theorem okvals_len (l : List (Bool × Int)) : (okvals l).length ≤ l.length := by unfold okvals; rw [List.length_map]; exact List.length_filter_le _ _
theorem okvals_take {l : List (Bool × Int)} (k : Nat) (h : k < l.length) : okvals (l.take (k + 1)) = okvals (l.take k) ++ (if l[k].1 then [l[k].2] else []) := by
  rw [take_succ l k h, okvals_app]
  congr 1
  cases h2 : l[k].1 <;> simp [okvals, h2]
theorem apart_type {W : World} {b1 b2 : Nat} {e1 e2 : TypeId} {s1 s2 n1 n2 : Nat} {v u : Value} {xs ys : List Value} (h1 : W.ownsRow b1 e1 s1 v n1 xs) (h2 : W.ownsRow b2 e2 s2 u n2 ys) (hne : e1 ≠ e2) : Apart v u := fun g hg hu => by
  obtain ⟨c1, k1⟩ := own_typeA h1 g hg
  obtain ⟨c2, k2⟩ := own_typeA h2 g hu
  rw [k1] at k2; injection k2 with k2; injection k2 with _ h; exact hne h
theorem counts_n (p : Option Addr) (c n : Nat) (l : List Int) (hn : l.length = n) (hl : l.length ≤ 1000000) (hr : Row w p (l.map i64)) :
    Calls Try.prog 31 #[.slice p n c] w fun e w' => ∃ b, e = .returned (.map (some b)) ∧ w.heap.size ≤ b ∧ b < w'.heap.size ∧ CntIs w' b l ∧ Below w.heap.size w w' := by subst hn; exact counts_any p c l hl hr
theorem concat_n (pa pb : Option Addr) (ca cb nb : Nat) (a b : List Int) (hn : b.length = nb) (ha : a.length ≤ 100000) (hb' : b.length ≤ 100000) (hra : Row w pa (a.map i64)) (hrb : Row w pb (b.map i64)) (hna : pa = none → ca = 0) (hnb : pb = none → cb = 0) :
    Calls Try.prog 32 #[.slice (some ⟨w.heap.size, 0, none⟩) 2 2] (w.alloc (.cells #[.slice pa a.length ca, .slice pb nb cb] 43)) fun e w' => (∃ p c n, e = .returned (.slice p n c) ∧ n = a.length + nb ∧ Row w' p ((a ++ b).map i64)) ∧ Below w.heap.size w w' := by
  subst hn
  refine (concat_two w.heap.size pa pb ca cb a b ha hb' (hra.alloc _) (hrb.alloc _) hna hnb (heap_alloc_new w _)).mono ?_
  rintro e w' ⟨v, he, ho, hb⟩
  obtain ⟨p, c, rfl, _, _, hr, _, _⟩ := own_row ho
  exact ⟨⟨p, c, _, he, rfl, hr⟩, (Below.allocS (Below.refl _ w) _).trans (hb.mono (by simp))⟩
theorem own_nilcapA' {base : Nat} {e : TypeId} {size n : Nat} {v : Value} {xs : List Value} (h : w.ownsRow base e size v n xs) : ∀ p m c, v = .slice p m c → p = none → c = 0 := fun p m c e => by subst e; exact own_nilcapA h
abbrev OwnL (W : World) (B : Nat) (v : Value) (l : List Int) : Prop := W.ownsRow B 2 1 v l.length (l.map i64)
theorem OwnL.app {W : World} {B : Nat} {v : Value} {l : List Int} {x : Int} (h : W.ownsRow B 2 1 v (l.length + 1) (l.map i64 ++ [i64 x])) : OwnL W B v (l ++ [x]) := by
  unfold OwnL; simpa using h

set_option maxRecDepth 100000 in
set_option maxHeartbeats 4000000 in
theorem once_walk (w : World) (r : Int) (wr : (Lit.int .i64 r).wf = true)
    (p0 : Option Addr) (c0 : Nat) (own : List (Int × Int)) (ok0 : own.length ≤ c0 ∧ c0 ≤ maxLen ∧ (p0 = none → c0 = 0) ∧ Row w p0 (own.flatMap (fun o : Int × Int => [i64 o.1, i64 o.2])) ∧ (∀ o ∈ own, inI64 o.1 ∧ inI64 o.2) ∧ c0 * Try.prog.bytesOf 27 ≤ 140737488351232)
    (p1 : Option Addr) (c1 : Nat) (th : List Int) (ok1 : th.length ≤ c1 ∧ c1 ≤ maxLen ∧ (p1 = none → c1 = 0) ∧ Row w p1 (th.map (Value.int .i64)) ∧ (∀ n ∈ th, (Lit.int .i64 n).wf = true) ∧ c1 * 8 ≤ 140737488351232)
    (p2 : Option Addr) (c2 : Nat) (pk : List Int) (ok2 : pk.length ≤ c2 ∧ c2 ≤ maxLen ∧ (p2 = none → c2 = 0) ∧ Row w p2 (pk.map (Value.int .u8)) ∧ (∀ n ∈ pk, (Lit.int .u8 n).wf = true) ∧ c2 * 1 ≤ 140737488351232) :
    Calls Try.prog 7 #[.int .i64 r, .slice p0 own.length c0, .slice p1 th.length c1, .slice p2 pk.length c2] w fun e w' => e = .returned (.bool true) ∧ Below w.heap.size w w' := by
  show Calls Try.prog 7 #[.int .i64 r, .slice p0 own.length c0, .slice p1 th.length c1, .slice p2 pk.length c2] w (BegP w)
  obtain ⟨hc0, hm0, hp0, row0, _, hz0⟩ := ok0
  obtain ⟨hc1, hm1, hp1, row1, wf1, _⟩ := ok1
  obtain ⟨hc2, hm2, hp2, row2, wf2, _⟩ := ok2
  have row0 : Row w p0 (opCells own) := row0
  obtain ⟨picks, hpl, hpu, hpe⟩ := picks_nat pk wf2
  rw [hpe] at row2
  rw [← hpl] at hc2 ⊢
  clear hpe hpl wf2 pk
  have hb27 : Try.prog.bytesOf 27 = 16 := by kernel_rfl
  rw [hb27] at hz0
  have hr64 := wf_i64 wr
  unfold inI64 at hr64
  have HW1 := hid (ints_in wf1)
  have HR0 := hid row0
  have HR1 := hid row1
  have HR2 := hid row2
  have HM := hid (And.intro hm0 (And.intro hm1 hm2))
  have HPU := hid hpu
  have hol0 : own.length ≤ 140737488355328 := by omega
  have holI : (own.length : Int) ≤ 140737488355328 := by omega
  clear wf1 row0 row1 row2 hm0 hm1 hm2 hpu hb27 hz0 wr
  have HB : Hid (Below w.heap.size w w) := Below.refl _ _
  have hsz : w.heap.size ≤ w.heap.size := Nat.le_refl _
  have HFEW := hid (fun W (hW : Below w.heap.size w W) => few_any (w := W) (p1 := p0) (c1 := c0) (p3 := p2) (c3 := c2) (n := own.length) (m := picks.length) (HR1.out.below hW) HW1.out hol0 (Nat.le_trans hc2 HM.out.2.2) hc1 HM.out.2.1 hp1)
  have HNI : Hid (∀ W, Below w.heap.size w W → NewIn W p0 c0 own p1 c1 th) := fun W hW => ⟨HR0.out.below hW, HR1.out.below hW, hp0, hc0, hc1⟩
  cases hf : fewB own.length th picks.length with
  | false =>
    rw [hf] at HFEW
    clear hf
    go_enter Try.func7, Try.ntmps7
    go_wp2_with (first
      | (go_at_call 8; refine begun_any.mono ?_; rintro e w1 ⟨rfl, hb1⟩; first | (have HB2 := hid hb1; have hq2 := HB1.out; clear hq2 hb1) | (have HB1 := hid hb1; clear hb1))
      | (go_at_call 9; refine (HFEW.out _ HB1.out).mono ?_; rintro e w2 ⟨rfl, hw2⟩; rw [hw2]; clear hw2))
    go_ret
    exact ⟨rfl, HB1.out.trans (HB2.out.mono HB1.out.size)⟩
  | true =>
    rw [hf] at HFEW
    have HF := hid hf
    clear hf
    by_cases hn : newE r own th = 0
    · have HN := hid hn
      have HNW := hid (fun W (hW : Below w.heap.size w W) => new_mach hn (HNI.out W hW) hol0 (Nat.le_trans hc1 HM.out.2.1) (fun n hn => (HW1.out n hn).2))
      have HRN := hid (fun (w1 w2 : World) (hW : Below w.heap.size w w1) (d : Nat) (fp : Nat → Prop) (hm : Mach w2 w1.heap.size d (newDq r.toNat own th) fp) (hb2 : Below w1.heap.size w1 w2) =>
        run30_any (w := w2) (w0 := w1) (d := d) (steady_plain (OnceI own)) (each_plain (fun n W => yes30 n) (fun S n hk hd => hk.step n hd)) hm (good_new hn) (OnceI.new hn) (new_few hn HF.out).2.1 (new_few hn HF.out).1 (new_few hn HF.out).2.2 hb2 p2 c2 picks (few_small hn HF.out).2 HPU.out (HR2.out.below hW))
      have hol : own.length ≤ 120 := by have := (few_small hn HF.out).1; have := sum_pos th (newE_zero hn).2.2.2.1; omega
      clear hn
      go_enter Try.func7, Try.ntmps7
      go_wp2_with (first
        | (go_at_call 8; refine begun_any.mono ?_; rintro e w1 ⟨rfl, hb1⟩; have HB1 := hid hb1; clear hb1)
        | (go_at_call 9; refine (HFEW.out _ HB1.out).mono ?_; rintro e w2 ⟨rfl, hw2⟩; rw [hw2]; clear hw2)
        | (go_at_call 10; refine (HNW.out _ HB1.out).mono ?_; rintro e w2 ⟨d, fp, rfl, hm2, hb2⟩; have HM2 := hid hm2; have HB2 := hid hb2; clear hm2 hb2)
        | (go_at_call 11; refine (HRN.out _ _ HB1.out _ _ HM2.out HB2.out).mono ?_; rintro e w3 ⟨rfl, S', fp', hri, hdone⟩; have HRI := hid hri; have HDONE := hid hdone; have HMS := hid (mach_answers hri.m hri.g (by rw [hri.l]; exact hri.l64) 0); clear hri hdone)
        | (go_at_call 14; refine HMS.out.mono ?_; rintro e w4 ⟨v4, rfl, ho4, hb4⟩; obtain ⟨lp, lc, rfl, _, _, hr4, _, _⟩ := own_row ho4; have HR4 := hid hr4; have HB4 := hid hb4; clear ho4 hr4 hb4))
      have hoe := once_end HRI.out.j (by have := HDONE.out 0 (by have := HRI.out.g.len; rw [HRI.out.l] at this; exact this); simpa using this)
      have hal := hoe.1
      have HCNT := hid hoe.2
      have HLEN : Hid (∀ k : Int, (S'.answers k).length ≤ 120) := fun k => by
        obtain ⟨L, p, x0, th', hI⟩ := HRI.out.g
        unfold Dq.answers
        split
        · rename_i hk
          have hi : k.toNat < S'.hs.length := by omega
          rw [List.getElem?_eq_getElem hi]
          exact Nat.le_trans (hI.len _ (List.getElem_mem hi)) (HRI.out.ops _ hi)
        · simp
      obtain ⟨la, hla⟩ : ∃ la, la = S'.answers 0 := ⟨_, rfl⟩
      rw [← hla] at hal HR4 HCNT ⊢
      rw [hal]
      have HLL := hid hal
      have HWK := hid (fun W (h : Below w3.heap.size w3 W) => mach_workers (HRI.out.m.below h))
      obtain ⟨N, hN⟩ : ∃ N, N = S'.hs.length := ⟨_, rfl⟩
      have HN64 : N ≤ 64 := by rw [hN, HRI.out.l]; exact HRI.out.l64
      have hN1 : 1 ≤ N := by rw [hN]; exact HRI.out.g.len
      rw [← hN] at HWK HCNT
      have HNN := hid hN
      have HAN := hid (fun W (h : Below w3.heap.size w3 W) (k : Nat) => mach_answers (HRI.out.m.below h) HRI.out.g (by rw [← HNN.out]; exact HN64) (k : Int))
      have HLF := hid (fun W (h : Below w3.heap.size w3 W) => mach_left (HRI.out.m.below h) HRI.out.g (by have := HRI.out.c; omega))
      have HLE : Hid (S'.left.length ≤ 300) := by
        obtain ⟨L, p, x0, th', hI⟩ := HRI.out.g
        have hbl : L - 1 ≤ S'.bottom ∧ S'.bottom ≤ L := by
          rcases hI.own with ⟨_, h, _⟩ | ⟨_, _, ⟨_, _, h, _⟩ | ⟨_, h, h', _⟩⟩ <;> omega
        have := hI.room
        have := hI.r2
        show (leftP _ _ _).length ≤ 300
        rw [leftP_len]; omega
      have HB3 : Hid (Below w.heap.size w w3) := HB1.out.trans (HRI.out.b.mono HB1.out.size)
      have HRO : Hid (Row w4 p0 (opCells own)) := HR0.out.below (HB3.out.trans (HB4.out.mono HB3.out.size))
      clear hN hla hal hoe HRI HDONE HM2 HB2 HRN HNW HFEW HNI HMS HB1
      go_loopw [11, 12, 50] (fun v u i W => ∃ k : Nat, k ≤ own.length ∧ i = .int .i64 k ∧ OwnL W w4.heap.size v (puts own (la.take k)) ∧ OwnL W w4.heap.size u (gots own (la.take k)) ∧ Apart v u ∧ Below w4.heap.size w4 W) (fun _ _ i _ => own.length - (intOf i).toNat)
      case atStart => exact ⟨0, Nat.zero_le _, rfl, by rw [show puts own (la.take 0) = [] by simp [puts]]; exact World.ownsRow_nil _ _ _ _, by rw [show gots own (la.take 0) = [] by simp [gots]]; exact World.ownsRow_nil _ _ _ _, Apart.nil _, Below.refl _ _⟩
      case round =>
        obtain ⟨k, hk, rfl, hop, hog, hap, hb5⟩ := hrel
        obtain ⟨pp, pc, rfl, _, _, hrp, _, _⟩ := own_row hop
        obtain ⟨gp, gc, rfl, _, _, hrg, _, _⟩ := own_row hog
        have HOP := hid hop
        have HOG := hid hog
        have HAP := hid hap
        have HRP := hid hrp
        have HRG := hid hrg
        have HNP := hid (own_nilcapA hop)
        have HNG := hid (own_nilcapA hog)
        have HB5 := hid hb5
        have hz5 := hb5.size
        have hpl := Nat.le_trans (puts_len own (la.take k)) (List.length_take_le _ _)
        have hgl := Nat.le_trans (gots_len own (la.take k)) (List.length_take_le _ _)
        clear hop hog hap hb5 hrp hrg
        by_cases hlt : k < own.length
        · have hlk : k < la.length := by rw [HLL.out]; exact hlt
          obtain ⟨b, o, rfl, hbw, hzo⟩ := HRO.out.at (by rw [opCells_len]; omega)
          obtain ⟨b2, o2, rfl, hbw2, hzl⟩ := HR4.out.at (by rw [ansCells_len]; omega)
          clear hzo hzl
          have hbl1 : b < wr.heap.size := by omega
          have hbl2 : b2 < wr.heap.size := by omega
          obtain ⟨c1', c2'⟩ := op_cells HRO.out k hlt
          obtain ⟨l1, l2⟩ := ans_cells HR4.out k hlk
          have hkI : (k : Int) < own.length := by omega
          have hkD : decide (own.length ≤ k) = false := by simp; omega
          have g1 := (HB5.out.cell (p := ⟨b, o + k * 2, none⟩) hbw).trans c1'
          have g2 := (HB5.out.cell (p := ⟨b, o + k * 2 + 1, none⟩) hbw).trans c2'
          have m1 := (HB5.out.cell (p := ⟨b2, o2 + k * 2, none⟩) hbw2).trans l1
          have m2 := (HB5.out.cell (p := ⟨b2, o2 + k * 2 + 1, none⟩) hbw2).trans l2
          have HP := hid (puts_take (own := own) k hlt hlk)
          have HG := hid (gots_take (own := own) k hlt hlk)
          clear c1' c2' l1 l2
          generalize own[k] = x at *
          generalize la[k] = y at *
          obtain ⟨x1, x2⟩ := x
          obtain ⟨y1, y2⟩ := y
          dsimp only at g1 g2 m1 m2 HP HG
          generalize puts own (la.take k) = pu at *
          generalize gots own (la.take k) = go at *
          cases y1 with
          | false =>
            simp only [Bool.false_and, Bool.false_eq_true, if_false, List.append_nil] at HP HG
            go_wp2
            go_roundw
            case rel => exact ⟨k + 1, by omega, by go_num, by rw [HP.out]; exact HOP.out.alloc _, by rw [HG.out]; exact HOG.out.alloc _, HAP.out, HB5.out.alloc hz5 _⟩
            case measure => simp [intOf]; omega
          | true =>
            by_cases hx : x1 = 1
            · subst hx
              simp only [beq_self_eq_true, Bool.and_self, if_true, bne_self_eq_false, Bool.and_false, Bool.false_eq_true, if_false, List.append_nil] at HP HG
              go_wp2_with ((with_reducible show wpList _ _ _ (⟨some 82, _, _, _, _, _⟩ :: _) _ _); go_loud (refine wpList_app E43 rfl _ _ rfl w4.heap.size _ _ _ rfl ((HOP.out.alloc _).alloc _) _ 1 1 [i64 x2] rfl rfl (by simp) (row_newAt _ _ _ _ (by simp)) (by simp [Value.oneCell']) (by unfold maxLen; omega) (by omega) (by simp; omega) ?_); intro v6 w6 ho6 hg6 hs6; have HO6 := hid ho6; have HG6 := hid hg6; have HS6 := hid hs6; clear ho6 hg6 hs6)
              go_roundw
              case rel =>
                refine ⟨k + 1, by omega, by go_num, by rw [HP.out]; exact OwnL.app HO6.out, by rw [HG.out]; exact own_kept ((HOG.out.alloc _).alloc _) HG6.out HAP.out.symm, HAP.out.stayed HS6.out (fun g hg => by have := own_lt HOG.out g hg; simp; omega), ?_⟩
                exact ((HB5.out.alloc hz5 _).alloc (by simp; omega) _).grown HG6.out (by simp; omega) (own_ge HOP.out)
              case measure => simp [intOf]; omega
            · have hx2 : (x1 == 1) = false := by simpa using hx
              have hx3 : (x1 != 1) = true := by simpa using hx
              simp only [hx2, hx3, Bool.and_self, if_true, Bool.and_false, Bool.false_eq_true, if_false, List.append_nil] at HP HG
              clear hx
              go_wp2_with ((with_reducible show wpList _ _ _ (⟨some 63, _, _, _, _, _⟩ :: _) _ _); go_loud (refine wpList_app E43 rfl _ _ rfl w4.heap.size _ _ _ rfl ((HOG.out.alloc _).alloc _) _ 1 1 [i64 y2] rfl rfl (by simp) (row_newAt _ _ _ _ (by simp)) (by simp [Value.oneCell']) (by unfold maxLen; omega) (by omega) (by simp; omega) ?_); intro v6 w6 ho6 hg6 hs6; have HO6 := hid ho6; have HG6 := hid hg6; have HS6 := hid hs6; clear ho6 hg6 hs6)
              go_roundw
              case rel =>
                refine ⟨k + 1, by omega, by go_num, by rw [HP.out]; exact own_kept ((HOP.out.alloc _).alloc _) HG6.out HAP.out, by rw [HG.out]; exact OwnL.app HO6.out, (HAP.out.symm.stayed HS6.out (fun g hg => by have := own_lt HOP.out g hg; simp; omega)).symm, ?_⟩
                exact ((HB5.out.alloc hz5 _).alloc (by simp; omega) _).grown HG6.out (by simp; omega) (own_ge HOG.out)
              case measure => simp [intOf]; omega
        · obtain rfl : k = own.length := by omega
          have hlt2 : la.take own.length = la := by rw [← HLL.out, List.take_length]
          rw [hlt2] at HOP HOG HAP hpl hgl HRP HRG ⊢
          clear hlt hk hlt2
          go_wp2
          clear HRO HR4 HRG HNG
          have HBW4 : Hid (Below w.heap.size w w4) := HB3.out.trans (HB4.out.mono HB3.out.size)
          have HW34 := hid (fun W (h : Below w4.heap.size w4 W) => HB4.out.trans (h.mono HB4.out.size))
          generalize puts own la = pu at *
          generalize gots own la = go at *
          have HP0 := hid (rfl : pu = pu)
          have hgl0 : go.length ≤ 120 := by omega
          have hpl0 : pu.length ≤ 120 := by omega
          obtain ⟨wo, hwo⟩ : ∃ wo : World, wo = wr := ⟨_, rfl⟩
          rw [← hwo] at HOP HOG HRP HB5 hz5 ⊢
          clear hwo hpl hgl
          go_loopw [12, 15] (fun u i W => ∃ q : Nat, 1 ≤ q ∧ q ≤ N ∧ i = .int .i64 q ∧ OwnL W w4.heap.size (.slice pp pu.length pc) pu ∧ OwnL W w4.heap.size u (go ++ took S' q) ∧ (go ++ took S' q).length ≤ 120 * q ∧ Apart (.slice pp pu.length pc) u ∧ Below w4.heap.size w4 W) (fun _ i _ => 64 - (intOf i).toNat)
          case atStart => exact ⟨1, Nat.le_refl _, hN1, rfl, HOP.out, by simpa [took] using HOG.out, by simp [took]; omega, HAP.out, HB5.out⟩
          case round =>
            clear HOP HOG HAP HB5
            obtain ⟨q, hq1, hqN, rfl, hop, hog, hgl, hap, hb6⟩ := hrel
            obtain ⟨gp2, gc2, rfl, _, _, hrg2, _, _⟩ := own_row hog
            have HOP := hid hop
            have HOG := hid hog
            have HAP := hid hap
            have HB6 := hid hb6
            have HWX := hid (HWK.out _ (HW34.out _ hb6))
            have hz6 := hb6.size
            clear hop hog hap hb6 hrg2
            have hq64 : (q : Int) ≤ 64 := by omega
            by_cases hlt : q < N
            · have hqI : (q : Int) < N := by omega
              have hAN := hid (HAN.out _ (HW34.out _ HB6.out) q)
              have HTK := hid (took_succ S' q hq1)
              have hLN := HLEN.out q
              generalize S'.answers q = l at *
              generalize hgt : go ++ took S' q = gt at *
              have HGT := hid hgt
              clear hgt
              go_wp2_with (first
                | (go_at_call 13; refine HWX.out.mono ?_; rintro e w7 ⟨rfl, hw7⟩; rw [hw7]; clear hw7)
                | (go_at_call 14; refine hAN.out.mono ?_; rintro e w7 ⟨v7, rfl, ho7, hb7⟩; obtain ⟨lp2, lc2, rfl, _, _, _, _, _⟩ := own_row ho7; have HA7 := hid ho7; have HB7 := hid hb7; clear ho7 hb7))
              obtain ⟨wo2, hwo2⟩ : ∃ wo : World, wo = wr := ⟨_, rfl⟩
              rw [← hwo2] at HOP HOG HB6 hz6 HA7 HB7
              clear hwo2
              have hz7 := HB7.out.size
              go_loopw [12, 94] (fun u i W => ∃ m : Nat, m ≤ l.length ∧ i = .int .i64 m ∧ OwnL W w4.heap.size (.slice pp pu.length pc) pu ∧ OwnL W w4.heap.size u (gt ++ okvals (l.take m)) ∧ Apart (.slice pp pu.length pc) u ∧ W.ownsRow wo2.heap.size 40 2 (.slice lp2 l.length lc2) l.length (ansCells l) ∧ Below w4.heap.size w4 W) (fun _ i _ => l.length - (intOf i).toNat)
              case atStart => exact ⟨0, Nat.zero_le _, rfl, own_below HOP.out HB7.out, by simpa [okvals] using own_below HOG.out HB7.out, HAP.out, HA7.out, HB6.out.trans (HB7.out.mono hz6)⟩
              case round =>
                clear HOP HOG HAP HA7
                obtain ⟨m, hm, rfl, hop, hog, hap, han, hb8⟩ := hrel
                obtain ⟨gp3, gc3, rfl, _, _, hrg3, _, _⟩ := own_row hog
                obtain ⟨lp', lc', elp, _, _, hrl, _, _⟩ := own_row han
                cases elp
                have HOP := hid hop
                have HOG := hid hog
                have HAP := hid hap
                have HAN2 := hid han
                have HB8 := hid hb8
                have HAT := hid (apart_type han hog (by decide))
                have hz8 := hb8.size
                clear hop hog hap han hb8 hrg3
                have hol3 := Nat.le_trans (okvals_len (l.take m)) (List.length_take_le _ _)
                by_cases hlt2 : m < l.length
                · obtain ⟨b, o, rfl, hbw, hz⟩ := hrl.at (by rw [ansCells_len]; omega)
                  clear hz
                  obtain ⟨g1, g2⟩ := ans_cells hrl m hlt2
                  have hmI : (m : Int) < l.length := by omega
                  have HS := hid (okvals_take m hlt2)
                  have hgt1 : (gt ++ okvals (l.take m)).length ≤ 20000 := by rw [List.length_append]; omega
                  clear hrl
                  generalize l[m] = y at *
                  obtain ⟨y1, y2⟩ := y
                  dsimp only at g1 g2 HS
                  generalize okvals (l.take m) = ok at *
                  generalize hgo : gt ++ ok = g5 at *
                  have HGO := hid hgo
                  clear hgo
                  cases y1 with
                  | false =>
                    simp only [Bool.false_eq_true, if_false, List.append_nil] at HS
                    go_wp2
                    go_roundw
                    case rel => exact ⟨m + 1, by omega, by go_num, HOP.out.alloc _, by rw [HS.out, HGO.out]; exact HOG.out.alloc _, HAP.out, HAN2.out.alloc _, HB8.out.alloc hz8 _⟩
                    case measure => simp [intOf]; omega
                  | true =>
                    simp only [if_true] at HS
                    go_wp2_with ((with_reducible show wpList _ _ _ (⟨some 104, _, _, _, _, _⟩ :: _) _ _); go_loud (refine wpList_app E43 rfl _ _ rfl w4.heap.size _ _ _ rfl ((HOG.out.alloc _).alloc _) _ 1 1 [i64 y2] rfl rfl (by simp) (row_newAt _ _ _ _ (by simp)) (by simp [Value.oneCell']) (by unfold maxLen; omega) (by omega) (by simp; omega) ?_); intro v9 w9 ho9 hg9 hs9; have HO9 := hid ho9; have HG9 := hid hg9; have HS9 := hid hs9; clear ho9 hg9 hs9)
                    go_roundw
                    case rel =>
                      refine ⟨m + 1, by omega, by go_num, own_kept ((HOP.out.alloc _).alloc _) HG9.out HAP.out, ?_, (HAP.out.symm.stayed HS9.out (fun g hg => by have := own_lt HOP.out g hg; simp; omega)).symm, own_kept ((HAN2.out.alloc _).alloc _) HG9.out HAT.out, ((HB8.out.alloc hz8 _).alloc (by simp; omega) _).grown HG9.out (by simp; omega) (own_ge HOG.out)⟩
                      rw [HS.out, ← List.append_assoc, HGO.out]; exact OwnL.app HO9.out
                    case measure => simp [intOf]; omega
                · obtain rfl : m = l.length := by omega
                  rw [List.take_length] at HOG HAP hol3 ⊢
                  go_wp2
                  go_roundw
                  case rel =>
                    refine ⟨q + 1, by omega, by omega, by go_num, HOP.out, ?_, ?_, HAP.out, HB8.out⟩
                    · rw [HTK.out, ← List.append_assoc, HGT.out]; exact HOG.out
                    · rw [HTK.out, ← List.append_assoc, HGT.out, List.length_append]; omega
                  case measure => simp [intOf]; omega
            · obtain rfl : q = N := by omega
              have HLF2 := hid (HLF.out _ (HW34.out _ HB6.out))
              have HLE2 := HLE.out
              generalize hgt : go ++ took S' q = gt at *
              have HGT := hid hgt
              generalize S'.left = lf at *
              clear hgt
              go_wp2_with (first
                | (go_at_call 13; refine HWX.out.mono ?_; rintro e w7 ⟨rfl, hw7⟩; rw [hw7]; clear hw7)
                | (go_at_call 18; refine HLF2.out.mono ?_; rintro e w7 ⟨v7, rfl, ho7, hb7⟩; have HNC := hid ho7; obtain ⟨p7, c7, rfl, _, _, hr7, _, _⟩ := own_row ho7; have HR7 := hid hr7; have HB7 := hid hb7; clear ho7 hb7 hr7)
                | ((with_reducible show wpList _ _ _ (⟨some 109, _, _, _, _, _⟩ :: _) _ _); go_loud (refine wpList_app E43 rfl _ _ rfl w4.heap.size _ _ _ rfl (own_below HOG.out HB7.out) _ lf.length c7 (lf.map i64) rfl (by simp) (own_nilcapA HNC.out) HR7.out (ints_oneC lf) (by unfold maxLen; omega) (by omega) (by have := HB7.out.size; omega) ?_); intro v9 w9 ho9 hg9 hs9; have HOP9 := hid (own_kept (own_below HOP.out HB7.out) hg9 HAP.out); have HOG9 := hid ho9; have HNG9 := hid (own_nilcapA' ho9); have HB9 := hid ((HB6.out.trans (HB7.out.mono hz6)).grown hg9 (Nat.le_trans hz6 HB7.out.size) (own_ge HOG.out)); obtain ⟨gp9, gc9, rfl, _, _, hrg9, _, _⟩ := own_row ho9; obtain ⟨pp9, pc9, epp, _, _, hrp9, _, _⟩ := own_row HOP9.out; cases epp; have HRG9 := hid hrg9; have HRP9 := hid hrp9; clear ho9 hg9 hs9 hrg9 hrp9)
                | (go_at_call 31; ((with_reducible refine (counts_any pp pc pu (by omega) HRP9.out).mono ?_); rintro e w10 ⟨b10, rfl, hb10a, hb10b, hcn10, hb10⟩; have HC10 := hid hcn10; have HB10 := hid hb10; clear hcn10 hb10))
                | (go_at_call 31; ((with_reducible refine (counts_n gp9 gc9 (gt.length + lf.length) (gt ++ lf) (by rw [List.length_append]) (by rw [List.length_append]; omega) (by rw [List.map_append]; exact HRG9.out.below HB10.out)).mono ?_); rintro e w11 ⟨b11, rfl, hb11a, hb11b, hcn11, hb11⟩; have HC11 := hid hcn11; have HB11 := hid hb11; clear hcn11 hb11))
                | (go_at_call 32; ((with_reducible refine (concat_n pp gp9 pc gc9 (gt.length + lf.length) pu (gt ++ lf) (by rw [List.length_append]) (by omega) (by rw [List.length_append]; omega) (HRP9.out.below (HB10.out.trans (HB11.out.mono HB10.out.size))) (by rw [List.map_append]; exact HRG9.out.below (HB10.out.trans (HB11.out.mono HB10.out.size))) HNP.out (HNG9.out _ _ _ rfl)).mono ?_); rintro e w12 ⟨⟨p12, c12, n12, rfl, hn12, hr12⟩, hb12⟩; have HN12 := hid hn12; clear hn12; have HR12 := hid hr12; have HB12 := hid hb12; clear hr12 hb12)))
              have HCM : Hid (CntIs w12 b10 pu ∧ CntIs w12 b11 (gt ++ lf)) := ⟨(HC10.out.below HB11.out hb10b).below HB12.out (Nat.lt_of_lt_of_le hb10b HB11.out.size), HC11.out.below HB12.out hb11b⟩
              have HBW12 : Hid (Below w.heap.size w w12) := by
                have h1 := HBW4.out.trans (HB9.out.mono HBW4.out.size)
                have z1 := Nat.le_trans HBW4.out.size HB9.out.size
                have h2 := h1.trans (HB10.out.mono z1)
                have z2 := Nat.le_trans z1 HB10.out.size
                have h3 := h2.trans (HB11.out.mono z2)
                exact h3.trans (HB12.out.mono (Nat.le_trans z2 HB11.out.size))
              obtain ⟨⟨m1, hm1, hc1m⟩, ⟨m2, hm2, hc2m⟩⟩ := HCM.out
              have HM1 := hid hm1
              have HM2 := hid hm2
              have HC1 := hid hc1m
              have HC2 := hid hc2m
              have hnl : (pu ++ (gt ++ lf)).length = n12 := by rw [HN12.out, List.length_append, List.length_append]
              have hn12b : n12 ≤ 1000000 := by rw [HN12.out]; omega
              have HNL := hid hnl
              clear hm1 hm2 hc1m hc2m hnl HCM HC10 HC11
              have HALL := hid HR12.out
              generalize hall : pu ++ (gt ++ lf) = all at *
              clear hall HN12
              have hnI : (n12 : Int) ≤ 1000000 := by omega
              go_loopw [119] (fun i W => ∃ k : Nat, k ≤ n12 ∧ i = .int .i64 k ∧ W = w12) (fun i _ => n12 - (intOf i).toNat)
              case atStart => exact ⟨0, Nat.zero_le _, rfl, rfl⟩
              case round =>
                obtain ⟨k, hk, rfl, rfl⟩ := hrel
                by_cases hlt3 : k < n12
                · obtain ⟨b, o, rfl, hbw, hz⟩ := HALL.out.at (by simp; rw [HNL.out]; omega)
                  have hck := hz k (by simp; rw [HNL.out]; exact hlt3)
                  simp only [List.getElem_map] at hck
                  have hkI : (k : Int) < n12 := by omega
                  clear hz
                  generalize all[k]'(by rw [HNL.out]; exact hlt3) = x at *
                  obtain ⟨u, hu⟩ : ∃ u : Int, u = (alook m1 x).getD 0 := ⟨_, rfl⟩
                  have hu2 : u = (alook m2 x).getD 0 := by rw [hu, HC1.out, HC2.out, HCNT.out]
                  have HU1 : Hid (((alook m1 x).map (Value.int .i64)).getD (.int .i64 0) = .int .i64 u) := by show _ = _; rw [hu]; cases alook m1 x <;> rfl
                  have HU2 : Hid (((alook m2 x).map (Value.int .i64)).getD (.int .i64 0) = .int .i64 u) := by show _ = _; rw [hu2]; cases alook m2 x <;> rfl
                  have huu : (u != u) = false := by simp
                  clear hu hu2
                  go_wp2_with (first
                    | ((with_reducible show wpList _ _ _ (⟨some 125, _, _, _, _, _⟩ :: _) _ _); go_loud (refine wpList_maplook K2 Try.underlying59 rfl _ _ false rfl (.int .i64 0) (zero3 _) _ _ rfl HM1.out x rfl ?_); simp only [Bool.false_eq_true, if_false]; rw [HU1.out])
                    | ((with_reducible show wpList _ _ _ (⟨some 128, _, _, _, _, _⟩ :: _) _ _); go_loud (refine wpList_maplook K2 Try.underlying59 rfl _ _ false rfl (.int .i64 0) (zero3 _) _ _ rfl HM2.out x rfl ?_); simp only [Bool.false_eq_true, if_false]; rw [HU2.out]))
                  go_roundw
                  case rel => exact ⟨k + 1, by omega, by go_num, trivial⟩
                  case measure => simp [intOf]; omega
                · obtain rfl : k = n12 := by omega
                  go_wp2
                  go_ret
                  exact ⟨rfl, HBW12.out⟩
    · have HNW := hid (fun W (hW : Below w.heap.size w W) => new_not hn (HNI.out W hW) hol0 (Nat.le_trans hc1 HM.out.2.1) (fun n hn => (HW1.out n hn).2))
      have hne : (newE r own th != 0) = true := by simpa using hn
      generalize newE r own th = en at *
      clear hn
      go_enter Try.func7, Try.ntmps7
      go_wp2_with (first
        | (go_at_call 8; refine begun_any.mono ?_; rintro e w1 ⟨rfl, hb1⟩; have HB1 := hid hb1; clear hb1)
        | (go_at_call 9; refine (HFEW.out _ HB1.out).mono ?_; rintro e w2 ⟨rfl, hw2⟩; rw [hw2]; clear hw2)
        | (go_at_call 10; refine (HNW.out _ HB1.out).mono ?_; rintro e w2 ⟨rfl, hb2⟩; have HB2 := hid hb2; clear hb2))
      go_ret
      exact ⟨rfl, HB1.out.trans (HB2.out.mono HB1.out.size)⟩
end Go.Proofs.Ytpgdpddmgljpmaa
