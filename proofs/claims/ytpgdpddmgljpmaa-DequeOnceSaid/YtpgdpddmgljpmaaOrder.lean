/-
  The walk of DequeOrder.
-/
import Derived.Test.YtpgdpddmgljpmaaOpenD
import Derived.Test.YtpgdpddmgljpmaaD18
namespace Go.Proofs.Ytpgdpddmgljpmaa
open Go.RowKit
variable {w w' : World}

theorem wf_u8 {n : Int} (h : (Lit.int .u8 n).wf = true) : 0 ≤ n ∧ n ≤ 255 := by
  simp [Lit.wf, IntKind.min, IntKind.max, IntKind.bits, IntKind.signed] at h
  omega
theorem ints_in {l : List Int} (h : ∀ n ∈ l, (Lit.int .i64 n).wf = true) : ∀ n ∈ l, -9223372036854775808 ≤ n ∧ n ≤ 9223372036854775807 := fun n hn => wf_i64 (h n hn)

theorem ord_ans {own : List (Int × Int)} {S : Dq} (h : OrdI own S) (k : Nat) (h1 : 1 ≤ k) (hk : k < S.hs.length) (m : Nat) (hm : m < (S.answers k).length) :
    ((S.answers k)[m].1 = true → lastO ((S.answers k).take m) < (S.answers k)[m].2) ∧ ((S.answers k)[m].1 = false → (S.answers k)[m].2 = 0) := by
  obtain ⟨L, p, x0, th, mm, H, _, _, _, _, _, hth⟩ := h
  have e : S.answers k = S.hs[k].said := by
    unfold Dq.answers
    rw [if_pos (by omega), Int.toNat_natCast, List.getElem?_eq_getElem hk]
  have hx : S.hs[k] ∈ th := by
    obtain ⟨j, rfl⟩ : ∃ j, k = j + 1 := ⟨k - 1, by omega⟩
    have hj : j < th.length := by rw [H.hs] at hk; simpa using hk
    have : S.hs[j + 1] = th[j] := by simp [H.hs]
    rw [this]; exact List.getElem_mem hj
  have hT := hth _ hx
  generalize S.answers k = l at *
  subst e
  exact ⟨fun h => hT.next m hm h, fun h => hT.no _ (List.getElem_mem hm) h⟩
theorem own_nilcapG {base : Nat} {e : TypeId} {size n m c : Nat} {p : Option Addr} {xs : List Value} (h : w.ownsRow base e size (.slice p m c) n xs) : p = none → c = 0 := own_nilcapA h
set_option maxRecDepth 100000 in
set_option maxHeartbeats 4000000 in
theorem order_walk (w : World) (r : Int) (wr : (Lit.int .i64 r).wf = true) (pu : Int) (wpu : (Lit.int .u8 pu).wf = true)
    (p0 : Option Addr) (c0 : Nat) (pops : List Bool) (hc0 : pops.length ≤ c0) (hm0 : c0 ≤ maxLen) (hp0 : p0 = none → c0 = 0) (row0 : Row w p0 (pops.map Value.bool))
    (p1 : Option Addr) (c1 : Nat) (th : List Int) (hc1 : th.length ≤ c1) (hm1 : c1 ≤ maxLen) (hp1 : p1 = none → c1 = 0) (wf1 : ∀ n ∈ th, (Lit.int .i64 n).wf = true) (row1 : Row w p1 (th.map (Value.int .i64)))
    (p2 : Option Addr) (c2 : Nat) (pk : List Int) (hc2 : pk.length ≤ c2) (hm2 : c2 ≤ maxLen) (hp2 : p2 = none → c2 = 0) (wf2 : ∀ n ∈ pk, (Lit.int .u8 n).wf = true) (row2 : Row w p2 (pk.map (Value.int .u8))) :
    Calls Try.prog 3 #[.int .i64 r, .int .u8 pu, .slice p0 pops.length c0, .slice p1 th.length c1, .slice p2 pk.length c2] w fun e w' => e = .returned (.bool true) ∧ Below w.heap.size w w' := by
  show Calls Try.prog 3 #[.int .i64 r, .int .u8 pu, .slice p0 pops.length c0, .slice p1 th.length c1, .slice p2 pk.length c2] w (BegP w)
  obtain ⟨picks, hpl, hpu, hpe⟩ := picks_nat pk wf2
  rw [hpe] at row2
  rw [← hpl] at hc2 ⊢
  clear hpe hpl wf2 pk
  have hr64 := wf_i64 wr
  unfold inI64 at hr64
  obtain ⟨hpu0, hpu1⟩ := wf_u8 wpu
  have HW1 := hid (ints_in wf1)
  have HR0 := hid row0
  have HR1 := hid row1
  have HR2 := hid row2
  have HM := hid (And.intro hm0 (And.intro hm1 hm2))
  have HPU := hid hpu
  have hp0l : (pops.length : Int) ≤ 9223372036854775807 := by unfold maxLen at hm0; omega
  clear wf1 wpu row0 row1 row2 hm0 hm1 hm2 hpu
  obtain ⟨n, hn, hn60⟩ : ∃ n : Nat, pu.tmod 60 = n ∧ n < 60 := ⟨(pu.tmod 60).toNat, by have := Int.tmod_nonneg 60 hpu0; omega, by have := Int.tmod_lt_of_pos pu (show (0 : Int) < 60 by decide); have := Int.tmod_nonneg 60 hpu0; omega⟩
  go_enter Try.func3, Try.ntmps3
  go_wp2
  go_loopw [11, 22] (fun v i W => ∃ k : Nat, k ≤ n ∧ i = .int .i64 k ∧ W.ownsRow w.heap.size 27 2 v (ownO pops k).length (opCells (ownO pops k)) ∧ Below w.heap.size w W) (fun _ i _ => n - (intOf i).toNat)
  case atStart => exact ⟨0, Nat.zero_le _, rfl, World.ownsRow_nil _ _ _ _, Below.refl _ _⟩
  case round =>
    obtain ⟨k, hk, rfl, hown, hb⟩ := hrel
    have hsz := hb.size
    obtain ⟨vp, vc, rfl, hvc, hvm, hvr, hvn, _⟩ := own_row hown
    have HOWN := hid hown
    have HVR := hid hvr
    have HVN := hid (own_nilcapG hown)
    have hlen := ownO_len pops k
    unfold maxLen at hvm
    clear hown hvr hvn
    have HB := hid hb
    by_cases hlt : k < n
    · clear hb
      have hS := hid (ownO_succ pops k)
      have hkI : (k : Int) < n := by omega
      have hk60 : (k : Int) ≤ 60 := by omega
      have hnI : (n : Int) ≤ 60 := by omega
      generalize hLL : (ownO pops k).length = ln at *
      have HLL := hid hLL
      clear hLL
      by_cases h0 : pops.length = 0
      · have hg : decide (0 < pops.length) = false := by simp [h0]
        have hE : Hid (ownO pops (k + 1) = ownO pops k ++ [(1, (k : Int) + 1)]) := by
          have : pops = [] := List.eq_nil_of_length_eq_zero h0
          rw [hS.out, this]; simp [Hid]
        clear hS h0
        go_wp2_with ((with_reducible show wpList _ _ _ (⟨some 30, _, _, _, _, _⟩ :: _) _ _); go_loud (refine wpList_app E25 rfl _ _ rfl w.heap.size _ _ _ rfl (HOWN.out.alloc _) _ 1 1 [i64 1, i64 (k + 1)] rfl rfl (by simp) (row_new _ _ _) (by simp [Value.oneCell']) (by unfold maxLen; omega) (by omega) (by simp; omega) ?_); intro v5 w5 ho5 hg5 hs5; have HO5 := hid ho5; have HB5 := hid ((HB.out.alloc hsz _).grown hg5 (by simp; omega) (own_ge HOWN.out)); clear ho5 hg5 hs5)
        go_roundw
        case rel => exact ⟨k + 1, by omega, by go_num, by rw [hE.out, List.length_append, HLL.out, opCells_app]; exact HO5.out, HB5.out⟩
        case measure => simp [intOf]; omega
      · have hg : decide (0 < pops.length) = true := by simp; omega
        have hr : k % pops.length < pops.length := Nat.mod_lt _ (by omega)
        have he : (k : Int).tmod (pops.length : Int) = ((k % pops.length : Nat) : Int) := rfl
        obtain ⟨b, o, rfl, hbw, hz0⟩ := HR0.out.at (by simp; omega)
        have hck := hz0 (k % pops.length) (by simpa using hr)
        simp only [List.getElem_map] at hck
        have hgd : pops.getD (k % pops.length) false = pops[k % pops.length] := by rw [List.getD_eq_getElem?_getD, List.getElem?_eq_getElem hr]; rfl
        rw [hgd] at hS
        clear hgd hz0
        generalize pops[k % pops.length] = bo at *
        generalize k % pops.length = ix at *
        have hn0 : ¬ (pops.length : Int) = 0 := by omega
        have hn1 : ((pops.length : Int) == 0) = false := by rw [beq_eq_false_iff_ne]; omega
        have hrI : (ix : Int) < pops.length := by omega
        have HP : Hid (∀ W, Below w.heap.size w W → W.cell? ⟨b, o + ix, none⟩ = some (.bool bo)) := fun W hW => (hW.cell (p := ⟨b, o + ix, none⟩) hbw).trans hck
        clear hck h0
        cases bo with
        | false =>
          go_wp2_with ((with_reducible show wpList _ _ _ (⟨some 30, _, _, _, _, _⟩ :: _) _ _); go_loud (refine wpList_app E25 rfl _ _ rfl w.heap.size _ _ _ rfl (HOWN.out.alloc _) _ 1 1 [i64 1, i64 (k + 1)] rfl rfl (by simp) (row_new _ _ _) (by simp [Value.oneCell']) (by unfold maxLen; omega) (by omega) (by simp; omega) ?_); intro v5 w5 ho5 hg5 hs5; have HO5 := hid ho5; have HB5 := hid ((HB.out.alloc hsz _).grown hg5 (by simp; omega) (own_ge HOWN.out)); have hpc := HP.out _ HB5.out; clear ho5 hg5 hs5)
          go_roundw
          case rel => exact ⟨k + 1, by omega, by go_num, by rw [hS.out, if_neg (by simp), List.length_append, HLL.out, opCells_app]; exact HO5.out, HB5.out⟩
          case measure => simp [intOf]; omega
        | true =>
          go_wp2_with (first
            | ((with_reducible show wpList _ _ _ (⟨some 30, _, _, _, _, _⟩ :: _) _ _); go_loud (refine wpList_app E25 rfl _ _ rfl w.heap.size _ _ _ rfl (HOWN.out.alloc _) _ 1 1 [i64 1, i64 (k + 1)] rfl rfl (by simp) (row_new _ _ _) (by simp [Value.oneCell']) (by unfold maxLen; omega) (by omega) (by simp; omega) ?_); intro v5 w5 ho5 hg5 hs5; have HO5 := hid ho5; have HB5 := hid ((HB.out.alloc hsz _).grown hg5 (by simp; omega) (own_ge HOWN.out)); have hpc := HP.out _ HB5.out; have hz5 := HB5.out.size; clear ho5 hg5 hs5)
            | ((with_reducible show wpList _ _ _ (⟨some 46, _, _, _, _, _⟩ :: _) _ _); go_loud (refine wpList_app E25 rfl _ _ rfl w.heap.size _ _ _ rfl (HO5.out.alloc _) _ 1 1 [i64 2, i64 0] rfl rfl (by simp) (row_new _ _ _) (by simp [Value.oneCell']) (by unfold maxLen; omega) (by omega) (by simp; omega) ?_); intro v6 w6 ho6 hg6 hs6; have HO6 := hid ho6; have HB6 := hid ((HB5.out.alloc hz5 _).grown hg6 (by simp; omega) (own_ge HO5.out)); clear ho6 hg6 hs6))
          go_roundw
          case rel => exact ⟨k + 1, by omega, by go_num, by rw [hS.out, if_pos rfl, List.length_append, HLL.out, opCells_app]; simpa [opCells] using HO6.out, HB6.out⟩
          case measure => simp [intOf]; omega
    · obtain rfl : k = n := by omega
      clear hlt hk
      have hrise := hid (ownO_rise pops k).1
      generalize ownO pops k = own at *
      have hol : own.length ≤ 120 := by omega
      have HRO := hid HVR.out
      have hvl : (own.length : Int) ≤ 120 := by omega
      have HFEW := hid (fun W (hW : Below w.heap.size w W) => few_any (w := W) (p1 := vp) (c1 := vc) (p3 := p2) (c3 := c2) (n := own.length) (m := picks.length) (HR1.out.below hW) HW1.out (by omega) (Nat.le_trans hc2 HM.out.2.2) hc1 HM.out.2.1 hp1)
      have HNI : Hid (∀ W, Below wr.heap.size wr W → NewIn W vp vc own p1 c1 th) := fun W hW => ⟨HRO.out.below hW, HR1.out.below (HB.out.trans (hW.mono hsz)), HVN.out, hvc, hc1⟩
      cases hf : fewB own.length th picks.length with
      | false =>
        rw [hf] at HFEW
        clear hf hb HOWN
        go_wp2_with (first
          | (go_at_call 8; refine begun_any.mono ?_; rintro e w1 ⟨rfl, hb1⟩; first | (have HB2 := hid hb1; have hq2 := HB1.out; clear hq2 hb1) | (have HB1 := hid hb1; clear hb1))
          | (go_at_call 9; refine (HFEW.out _ (HB.out.trans (HB1.out.mono hsz))).mono ?_; rintro e w2 ⟨rfl, hw2⟩; rw [hw2]; clear hw2))
        go_ret
        exact ⟨rfl, (HB.out.trans (HB1.out.mono hsz)).trans (HB2.out.mono (Nat.le_trans hsz HB1.out.size))⟩
      | true =>
        rw [hf] at HFEW
        have HF := hid hf
        clear hf hb HOWN
        by_cases hn : newE r own th = 0
        · have HN := hid hn
          have HNW := hid (fun W (hW : Below wr.heap.size wr W) => new_mach hn (HNI.out W hW) (by omega) (Nat.le_trans hc1 HM.out.2.1) (fun n hn => (HW1.out n hn).2))
          have HRN := hid (fun (w1 w2 : World) (hW : Below wr.heap.size wr w1) (d : Nat) (fp : Nat → Prop) (hm : Mach w2 w1.heap.size d (newDq r.toNat own th) fp) (hb2 : Below w1.heap.size w1 w2) =>
            run12_any (w := w2) (w0 := w1) (d := d) (steady_plain (OrdI own)) (each_plain (fun n W => yes12 n) (fun S n hk hd => hk.step hrise.out n hd)) hm (good_new hn) (OrdI.new hn hrise.out) (new_few hn HF.out).2.1 (new_few hn HF.out).1 (new_few hn HF.out).2.2 hb2 p2 c2 picks (few_small hn HF.out).2 HPU.out (HR2.out.below (HB.out.trans (hW.mono hsz))))
          clear hn
          go_wp2_with (first
            | (go_at_call 8; refine begun_any.mono ?_; rintro e w1 ⟨rfl, hb1⟩; have HB1 := hid hb1; clear hb1)
            | (go_at_call 9; refine (HFEW.out _ (HB.out.trans (HB1.out.mono hsz))).mono ?_; rintro e w2 ⟨rfl, hw2⟩; rw [hw2]; clear hw2)
            | (go_at_call 10; refine (HNW.out _ HB1.out).mono ?_; rintro e w2 ⟨d, fp, rfl, hm2, hb2⟩; have HM2 := hid hm2; have HB2 := hid hb2; clear hm2 hb2)
            | (go_at_call 11; refine (HRN.out _ _ HB1.out _ _ HM2.out HB2.out).mono ?_; rintro e w3 ⟨rfl, S', fp', hri, hdone⟩; have HRI := hid hri; have HDONE := hid hdone; clear hri hdone))
          have HWK := hid (fun W (h : Below w3.heap.size w3 W) => mach_workers (HRI.out.m.below h))
          obtain ⟨N, hN⟩ : ∃ N, N = S'.hs.length := ⟨_, rfl⟩
          have HN64 : N ≤ 64 := by rw [hN, HRI.out.l]; exact HRI.out.l64
          rw [← hN] at HWK
          have HNN := hid hN
          clear hN
          have HORD := hid (ord_ans HRI.out.j)
          have HLEN : Hid (∀ k : Int, (S'.answers k).length ≤ 4096) := fun k => by
            obtain ⟨L, p, x0, th', hI⟩ := HRI.out.g
            unfold Dq.answers
            split
            · rename_i hk
              have hi : k.toNat < S'.hs.length := by omega
              rw [List.getElem?_eq_getElem hi]
              exact Nat.le_trans (hI.len _ (List.getElem_mem hi)) (hI.few _ (List.getElem_mem hi))
            · simp
          have HAN := hid (fun W (h : Below w3.heap.size w3 W) (k : Nat) => mach_answers (HRI.out.m.below h) HRI.out.g (by rw [← HNN.out]; exact HN64) (k : Int))
          have HBW3 : Hid (Below w.heap.size w w3) := (HB.out.trans (HB1.out.mono hsz)).trans (HRI.out.b.mono (Nat.le_trans hsz HB1.out.size))
          clear HRI HM2 HB2 HRN HNW HFEW HNI
          go_loopw [15] (fun i W => ∃ k : Nat, 1 ≤ k ∧ (k ≤ N ∨ k = 1) ∧ i = .int .i64 k ∧ Below w3.heap.size w3 W) (fun i _ => 64 - (intOf i).toNat)
          case atStart => exact ⟨1, Nat.le_refl _, .inr rfl, rfl, Below.refl _ _⟩
          case round =>
            obtain ⟨q, hq1, hqN, rfl, hbx⟩ := hrel
            have HBX := hid hbx
            have HWX := hid (HWK.out _ hbx)
            clear hbx
            by_cases hlt : q < N
            · have hqI : (q : Int) < N := by omega
              have hq64 : (q : Int) ≤ 64 := by omega
              have hO := hid (HORD.out q hq1 (by rw [← HNN.out]; exact hlt))
              have hAN := hid (HAN.out _ HBX.out q)
              have hLN := HLEN.out q
              generalize S'.answers q = l at *
              go_wp2_with (first
                | (go_at_call 13; refine HWX.out.mono ?_; rintro e w4 ⟨rfl, hw4⟩; rw [hw4]; clear hw4)
                | (go_at_call 14; refine hAN.out.mono ?_; rintro e w4 ⟨v4, rfl, ho4, hb4⟩; obtain ⟨lp, lc, rfl, _, _, hr4, _, _⟩ := own_row ho4; have HR4 := hid hr4; have HB4 := hid hb4; clear ho4 hr4 hb4))
              obtain ⟨wo, rfl⟩ : ∃ wo : World, wo = wr := ⟨_, rfl⟩
              go_loopw [16, 83] (fun v i W => ∃ m : Nat, m ≤ l.length ∧ i = .int .i64 m ∧ v = .int .i64 (lastO (l.take m)) ∧ Below w4.heap.size w4 W) (fun _ i _ => l.length - (intOf i).toNat)
              case atStart => exact ⟨0, Nat.zero_le _, rfl, rfl, Below.refl _ _⟩
              case round =>
                obtain ⟨m, hm, rfl, rfl, hb5⟩ := hrel
                have HB5 := hid hb5
                have hz5 := hb5.size
                clear hb5
                by_cases hlt2 : m < l.length
                · obtain ⟨b, o, rfl, hbw, hz⟩ := HR4.out.at (by rw [ansCells_len]; omega)
                  clear hz
                  obtain ⟨c1', c2'⟩ := ans_cells HR4.out m hlt2
                  have g1 := (HB5.out.cell (p := ⟨b, o + m * 2, none⟩) hbw).trans c1'
                  have g2 := (HB5.out.cell (p := ⟨b, o + m * 2 + 1, none⟩) hbw).trans c2'
                  have hmI : (m : Int) < l.length := by omega
                  obtain ⟨hy, hno⟩ := hO.out m hlt2
                  have HS := hid (lastO_snoc (l.take m) l[m])
                  rw [← take_succ l m hlt2] at HS
                  have hl0 := lastO_bd (l.take m)
                  generalize l[m] = x at *
                  obtain ⟨x1, x2⟩ := x
                  dsimp only at g1 g2 hy hno HS
                  clear c1' c2'
                  generalize lastO (l.take m) = la at *
                  cases x1 with
                  | true =>
                    have hy2 := hy rfl
                    have hd : decide (x2 ≤ la) = false := by simp; omega
                    have HMX : Hid (max la x2 = x2) := by show max la x2 = x2; omega
                    clear hy hno
                    go_wp2
                    go_roundw
                    case rel => exact ⟨m + 1, by omega, by go_num, by rw [HS.out]; show Value.int .i64 _ = Value.int .i64 _; congr 1; omega, HB5.out.alloc hz5 _⟩
                    case measure => simp [intOf]; omega
                  | false =>
                    obtain rfl := hno rfl
                    clear hy hno
                    go_wp2
                    go_roundw
                    case rel => exact ⟨m + 1, by omega, by go_num, by rw [HS.out]; show Value.int .i64 _ = Value.int .i64 _; congr 1; omega, HB5.out.alloc hz5 _⟩
                    case measure => simp [intOf]; omega
                · obtain rfl : m = l.length := by omega
                  go_wp2
                  go_roundw
                  case rel => exact ⟨q + 1, by omega, by omega, by go_num, (HBX.out.trans (HB4.out.mono HBX.out.size)).trans (HB5.out.mono (Nat.le_trans HBX.out.size HB4.out.size))⟩
                  case measure => simp [intOf]; omega
            · have hge : N ≤ q := by omega
              have hgI : (N : Int) ≤ q := by omega
              go_wp2_with (go_at_call 13; refine HWX.out.mono ?_; rintro e w4 ⟨rfl, hw4⟩; rw [hw4]; clear hw4)
              go_ret
              exact ⟨rfl, HBW3.out.trans (HBX.out.mono HBW3.out.size)⟩
        · have HNW := hid (fun W (hW : Below wr.heap.size wr W) => new_not hn (HNI.out W hW) (by omega) (Nat.le_trans hc1 HM.out.2.1) (fun n hn => (HW1.out n hn).2))
          have hne : (newE r own th != 0) = true := by simpa using hn
          generalize newE r own th = en at *
          clear hn
          go_wp2_with (first
            | (go_at_call 8; refine begun_any.mono ?_; rintro e w1 ⟨rfl, hb1⟩; have HB1 := hid hb1; clear hb1)
            | (go_at_call 9; refine (HFEW.out _ (HB.out.trans (HB1.out.mono hsz))).mono ?_; rintro e w2 ⟨rfl, hw2⟩; rw [hw2]; clear hw2)
            | (go_at_call 10; refine (HNW.out _ HB1.out).mono ?_; rintro e w2 ⟨rfl, hb2⟩; have HB2 := hid hb2; clear hb2))
          go_ret
          exact ⟨rfl, (HB.out.trans (HB1.out.mono hsz)).trans (HB2.out.mono (Nat.le_trans hsz HB1.out.size))⟩
end Go.Proofs.Ytpgdpddmgljpmaa
