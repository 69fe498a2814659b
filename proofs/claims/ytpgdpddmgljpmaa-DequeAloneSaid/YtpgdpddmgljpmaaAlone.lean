/-
  The walk of DequeAlone.
-/
import Derived.Test.YtpgdpddmgljpmaaOpenD
import Derived.Test.YtpgdpddmgljpmaaD17
namespace Go.Proofs.Ytpgdpddmgljpmaa
open Go.RowKit
variable {w w' : World}

theorem own_shrink {base : Nat} {e : TypeId} {p : Option Addr} {n c : Nat} {xs : List Value} (h : w.ownsRow base e 1 (.slice p (n + 1) c) (n + 1) xs) : w.ownsRow base e 1 (.slice p n c) n xs.dropLast := by
  refine ⟨by have := h.1; simp at this ⊢; omega, ?_⟩
  rcases h.2 with ⟨hv, _⟩ | ⟨g, cap, cur, hv, hge, hg, hnc, hcm, hcs, htk⟩
  · cases hv
  · cases hv
    refine .inr ⟨g, c, cur, rfl, hge, hg, by omega, hcm, hcs, ?_⟩
    have hl := h.1
    simp only [Nat.mul_one] at htk hl ⊢
    rw [← htk, List.dropLast_eq_take, List.take_take]
    congr 1
    rw [htk, hl]; omega
theorem stkRun_at (room : Nat) (l : List (Int × Int)) : ∀ m : Nat, m ≤ l.length → (stkRun room (l.take m)).2.length = m ∧ ∀ (k : Nat) (hk : k < l.length), k < m → (stkRun room (l.take m)).2[k]? = some (stkStep room (stkRun room (l.take k)).1 l[k]).2
  | 0, _ => ⟨rfl, fun k _ h => absurd h (Nat.not_lt_zero _)⟩
  | m + 1, hm => by
    obtain ⟨i1, i2⟩ := stkRun_at room l m (by omega)
    rw [take_succ l m (by omega), stkRun_snoc]
    refine ⟨by simp [i1], fun k hk hkm => ?_⟩
    by_cases e : k = m
    · subst e
      show (_ ++ [_])[k]? = _
      rw [List.getElem?_append_right (by omega), i1]; simp
    · show (_ ++ [_])[k]? = _
      rw [List.getElem?_append_left (by omega)]
      exact i2 k hk (by omega)
theorem stkRun_fst (room : Nat) (l : List (Int × Int)) : (stkRun room l).1.length ≤ l.length := by
  have h : ∀ (l : List (Int × Int)) (z : List Int × List (Bool × Int)), (l.foldl (fun z o => ((stkStep room z.1 o).1, z.2 ++ [(stkStep room z.1 o).2])) z).1.length ≤ z.1.length + l.length := by
    intro l
    induction l with
    | nil => intro z; simp
    | cons o l ih =>
      intro z
      rw [List.foldl_cons]
      refine Nat.le_trans (ih _) ?_
      have : (stkStep room z.1 o).1.length ≤ z.1.length + 1 := by
        unfold stkStep
        split
        · simp
        · split <;> simp <;> omega
      simp only [List.length_cons]; omega
  have := h l ([], [])
  simpa [stkRun] using this
structure AloneW (w1 : World) (d room : Nat) (own : List (Int × Int)) (k : Nat) (S : Dq) (fp : Nat → Prop) (W : World) : Prop where
  m : Mach W w1.heap.size d S fp
  g : Good S
  a : AloneI room own S
  l : S.hs.length = 1
  c : S.count ≤ k
  r : rem S 0 ≤ 4 * own.length - k
  b : Below w1.heap.size w1 W
theorem rem_done {S : Dq} (H : Good S) {i : Nat} (hi : i < S.hs.length) (hd : S.doneN (i : Int) = true) : rem S i = 0 := by
  have h := at_in H i hi
  unfold Dq.doneN at hd
  rw [if_pos (by omega), Int.toNat_natCast, List.getElem?_eq_getElem hi] at hd
  have hd : S.hs[i].said.length = S.hs[i].ops.length := by simpa [Hd.done] using hd
  unfold rem
  rw [List.getElem?_eq_getElem hi]
  dsimp only
  by_cases h0 : S.hs[i].at_ = 0
  · omega
  · have := h.2.2 h0; omega
theorem rem_not {S : Dq} (H : Good S) {i : Nat} (hi : i < S.hs.length) (hd : S.doneN (i : Int) = false) : 1 ≤ rem S i := by
  have h := at_in H i hi
  obtain ⟨j, e, hj, hne⟩ := doneN_false hd
  obtain rfl : j = i := by omega
  obtain ⟨L, p, x0, th, H⟩ := H
  have hle := H.len _ (List.getElem_mem hi)
  unfold rem
  rw [List.getElem?_eq_getElem hi]
  dsimp only
  omega
theorem AloneW.step {w1 : World} {d room k : Nat} {own : List (Int × Int)} {S : Dq} {fp : Nat → Prop} {W : World} (h : AloneW w1 d room own k S fp W) (hk : k < 4 * own.length) (hol : own.length ≤ 300) :
    Calls Try.prog 15 #[.pointer (some ⟨d, 0, none⟩), .int .i64 0] W fun e W' => e = .returned (.tuple #[]) ∧ ∃ S' fp', AloneW w1 d room own (k + 1) S' fp' W' := by
  have hc := h.c
  refine (mach_step h.m h.g (by rw [h.l]; decide) (by omega) 0).mono ?_
  rintro e W' ⟨he, fp', k1, _, _, k4⟩
  refine ⟨he, S.stepN 0, fp', ?_⟩
  have hr := h.r
  cases hd : S.doneN 0 with
  | true =>
    have e := rem_done h.g (i := 0) (by rw [h.l]; decide) hd
    rw [stepN_done hd] at k1 ⊢
    exact ⟨k1, h.g, h.a, h.l, by omega, by rw [e]; omega, h.b.trans k4⟩
  | false =>
    have hs := h.g.stepN (by omega) 0
    obtain ⟨i, e, hi, hne⟩ := doneN_false hd
    obtain rfl : i = 0 := by omega
    have hw := h.g.step 0 hi hne (by omega)
    have e2 : S.stepN 0 = S.step 0 := stepN_not hd
    exact ⟨k1, hs.1, h.a.step hd, hs.2.1.trans h.l, by have := hs.2.2; omega, by rw [e2]; have := hw.rem; omega, h.b.trans k4⟩
theorem AloneW.fin {w1 : World} {d room : Nat} {own : List (Int × Int)} {S : Dq} {fp : Nat → Prop} {W : World} (h : AloneW w1 d room own (4 * own.length) S fp W) : S.doneN 0 = true ∧ stkRun room own = (S.left, S.answers 0) ∧ (S.answers 0).length = own.length := by
  have hd : S.doneN 0 = true := by
    cases hd : S.doneN 0 with
    | true => rfl
    | false =>
      have := rem_not h.g (i := 0) (by rw [h.l]; decide) hd
      have := h.r
      omega
  exact ⟨hd, h.a.end hd⟩
theorem AloneW.new {w1 : World} {r : Int} {own : List (Int × Int)} (hn : newE r own [] = 0) {e : Ending} {W : World} (h : NewMach w1 (newDq r.toNat own []) e W) : ∃ d, e = .returned (.tuple #[.pointer (some ⟨d, 0, none⟩), .int .i64 0]) ∧ ∃ S fp, AloneW w1 d r.toNat own 0 S fp W := by
  obtain ⟨d, fp, he, hm, hb⟩ := h
  refine ⟨d, he, _, fp, hm, good_new hn, AloneI.new hn, by simp [newDq], by simp [newDq], ?_, hb⟩
  simp [rem, newDq, hd0]

theorem al_ne {ws wr w6 : World} {v v5 : Value} {n : Nat} {xs : List Value} (hown : wr.ownsRow ws.heap.size 2 1 v n xs) (hs : Stayed w6 v v5) (hw : wr.heap.size + 3 ≤ w6.heap.size) : ∀ g, v5.ownBlock = some g → g ≠ wr.heap.size + 1 := fun g hg e => by
  rcases hs g hg with h | h
  · have := own_lt hown g h; omega
  · omega
theorem aft {ws wr w5 : World} {v : Value} {n : Nat} {x2 : Int} {xs : List Value} (hown : wr.ownsRow ws.heap.size 2 1 v n xs) (hb : Below ws.heap.size ws wr)
    (hg5 : (((wr.alloc (.cells #[.int .i64 1, .int .i64 x2] 27)).alloc (.cells #[.bool false, .int .i64 0] 40)).alloc (.cells #[.int .i64 x2] 2)).grownBy w5 v.ownBlock) :
    Below ws.heap.size ws w5 ∧ w5.cell? ⟨wr.heap.size, 1, none⟩ = some (.int .i64 x2) ∧ w5.cell? ⟨wr.heap.size + 1, 0, none⟩ = some (.bool false) ∧ w5.cell? ⟨wr.heap.size + 1, 1, none⟩ = some (.int .i64 0) ∧ w5.frozen? ⟨wr.heap.size + 1, 0, none⟩ = false ∧ w5.frozen? ⟨wr.heap.size + 1, 1, none⟩ = false ∧ wr.heap.size + 2 < w5.heap.size := by
  have hsz := hb.size
  have hne : ∀ j, wr.heap.size ≤ j → some j ≠ v.ownBlock := fun j hj e => by have := own_lt hown j e.symm; omega
  have hs5 := hg5.size
  simp only [World.size_alloc] at hs5
  have bO : w5.heap[wr.heap.size]? = some (.cells #[.int .i64 1, .int .i64 x2] 27 (0, 0)) := (hg5.block _ (by simp only [World.size_alloc]; omega) (hne _ (Nat.le_refl _))).trans ((heap_alloc_miss _ _ _ (by simp only [World.size_alloc]; omega)).trans ((heap_alloc_miss _ _ _ (by simp only [World.size_alloc]; omega)).trans (heap_alloc_at _ _ _ rfl)))
  have bW : w5.heap[wr.heap.size + 1]? = some (.cells #[.bool false, .int .i64 0] 40 (0, 0)) := (hg5.block _ (by simp only [World.size_alloc]; omega) (hne _ (by omega))).trans ((heap_alloc_miss _ _ _ (by simp only [World.size_alloc]; omega)).trans (heap_alloc_at _ _ _ (by simp)))
  exact ⟨((((hb.alloc hsz _).alloc (by simp only [World.size_alloc]; omega) _).alloc (by simp only [World.size_alloc]; omega) _).grown hg5 (by simp only [World.size_alloc]; omega) (own_ge hown)), cell_of_row w5 _ 1 _ _ _ bO, cell_of_row w5 _ 0 _ _ _ bW, cell_of_row w5 _ 1 _ _ _ bW, frozen_of_row w5 _ 0 _ _ bW, frozen_of_row w5 _ 1 _ _ bW, by omega⟩

set_option maxRecDepth 100000 in
set_option maxHeartbeats 4000000 in
theorem alone_walk (w : World) (r : Int) (wr : (Lit.int .i64 r).wf = true) (p : Option Addr) (c : Nat) (own : List (Int × Int)) (ok : own.length ≤ c ∧ c ≤ maxLen ∧ (p = none → c = 0) ∧ Row w p (own.flatMap (fun o : Int × Int => [i64 o.1, i64 o.2])) ∧ (∀ o ∈ own, inI64 o.1 ∧ inI64 o.2) ∧ c * Try.prog.bytesOf 27 ≤ 140737488351232) :
    Calls Try.prog 4 #[.int .i64 r, .slice p own.length c] w fun e w' => e = .returned (.bool true) ∧ Below w.heap.size w w' := by
  show Calls Try.prog 4 #[.int .i64 r, .slice p own.length c] w (BegP w)
  obtain ⟨k1, k2, k3, k4, k5, k6⟩ := ok
  have hr0 : Row w p (opCells own) := k4
  have hr64 := wf_i64 wr
  unfold inI64 at hr64
  unfold maxLen at k2
  have hol : (own.length : Int) ≤ 9223372036854775807 := by omega
  clear k4 k6
  by_cases hbig : 300 < own.length
  · have g1 : decide (300 < own.length) = true := by simpa using hbig
    go_enter Try.func4, Try.ntmps4
    go_wp2_with (go_at_call 8; refine begun_any.mono ?_; rintro e w1 ⟨rfl, hb1⟩; first | (have HB2 := hid hb1; have HB3 := HB1; clear HB3 hb1) | (have HB1 := hid hb1; clear hb1))
    go_ret
    exact ⟨rfl, HB1.out.trans (HB2.out.mono HB1.out.size)⟩
  · have g1 : decide (300 < own.length) = false := by simpa using hbig
    have hol3 : own.length ≤ 300 := by omega
    clear hbig
    by_cases hn : newE r own [] = 0
    · have HN := hid hn
      have HNW := hid (fun w1 (hb : Below w.heap.size w w1) => (new_mach (p1 := p) (p2 := none) (c1 := c) (c2 := 0) (w := w1) hn ⟨hr0.below hb, Row.nil _ _, k3, k1, Nat.le_refl _⟩ (by omega) (by simp) (by simp)))
      clear hn
      go_enter Try.func4, Try.ntmps4
      go_wp2_with (first
        | (go_at_call 8; refine begun_any.mono ?_; rintro e w1 ⟨rfl, hb1⟩; have HB1 := hid hb1; clear hb1)
        | (go_at_call 10; refine (HNW.out _ HB1.out).mono ?_; intro e w2 hnm; obtain ⟨d, rfl, S0, fp0, ha0⟩ := AloneW.new HN.out hnm; have HA0 := hid ha0; clear ha0 hnm HNW))
      have HOK := hid (newE_zero HN.out)
      have hr1 := HOK.out.1
      have hr2 := HOK.out.2.1
      obtain ⟨room, rfl⟩ : ∃ n : Nat, r = n := ⟨r.toNat, by omega⟩
      rw [Int.toNat_natCast] at HA0
      go_loopw [33] (fun i W => ∃ (k : Nat) (S : Dq) (fp : Nat → Prop), k ≤ 4 * own.length ∧ i = .int .i64 k ∧ AloneW w1 d room own k S fp W) (fun i _ => 4 * own.length - (intOf i).toNat)
      case atStart => exact ⟨0, S0, fp0, Nat.zero_le _, rfl, HA0.out⟩
      case round =>
        clear HA0
        obtain ⟨k, S, fp, hk, rfl, HA⟩ := hrel
        have HAA := hid HA
        clear HA
        by_cases hlt : k < 4 * own.length
        · have HST := hid (HAA.out.step hlt hol3)
          go_wp2_with (go_at_call 15; refine HST.out.mono ?_; rintro e w3 ⟨rfl, hx⟩; have HX := hid hx; clear hx)
          go_roundw
          case rel =>
            obtain ⟨S', fp', h⟩ := HX.out
            exact ⟨k + 1, S', fp', by omega, by go_num, h⟩
          case measure => simp [intOf]; omega
        · obtain rfl : k = 4 * own.length := by omega
          clear hk
          obtain ⟨hdn, hrun, hal⟩ := HAA.out.fin
          have HM := hid HAA.out.m
          have hcS := HAA.out.c
          have HG := hid HAA.out.g
          have HBW := hid HAA.out.b
          have HL1 : Hid (S.hs.length ≤ 64) := by show S.hs.length ≤ 64; rw [HAA.out.l]; decide
          have HRUN := hid hrun
          have HANS := hid (mach_answers HM.out HG.out HL1.out 0)
          have HLEN := hid hal
          rw [hal] at HANS
          have HDN := hid (fun W (h : Below wr.heap.size wr W) => mach_done (HM.out.below h) HL1.out 0)
          rw [hdn] at HDN
          obtain ⟨la, hla⟩ : ∃ la, la = S.answers 0 := ⟨_, rfl⟩
          rw [← hla] at HANS HLEN HRUN
          clear hdn hrun hal hla HAA
          go_wp2_with (first
            | (go_at_call 14; refine HANS.out.mono ?_; rintro e w3 ⟨v, rfl, ho3, hb3⟩; obtain ⟨lp, lc, rfl, _, _, hr3, _, _⟩ := own_row ho3; have HR3 := hid hr3; have HB3 := hid hb3; clear ho3 hr3 hb3)
            | (go_at_call 16; refine (HDN.out _ HB3.out).mono ?_; rintro e w4 ⟨rfl, q4, hw4⟩; rw [hw4]; clear hw4))
          clear HDN HANS
          have HBS : Hid (Below w.heap.size w (w3.drewN q4)) := below_drewN ((HB1.out.trans (HBW.out.mono HB1.out.size)).trans (HB3.out.mono (Nat.le_trans HB1.out.size HBW.out.size))) q4
          have HRL : Hid (Row (w3.drewN q4) lp (ansCells la)) := HR3.out
          have HMS : Hid (Mach (w3.drewN q4) w1.heap.size d S fp) := (HM.out.below HB3.out).drewN q4
          clear HR3 HM HBW HB3 HB1
          generalize w3.drewN q4 = ws at *
          have HRO : Hid (Row ws p (opCells own)) := hr0.below HBS.out
          have HLA : Hid (∀ (k : Nat) (hk : k < own.length), ∃ hk2 : k < la.length, la[k] = (stkStep room (stkRun room (own.take k)).1 own[k]).2) := fun k hk => by
            have h := (stkRun_at room own own.length (Nat.le_refl _)).2 k hk hk
            rw [List.take_length, HRUN.out] at h
            obtain ⟨h1, h2⟩ := List.getElem?_eq_some_iff.1 h
            exact ⟨h1, h2⟩
          obtain ⟨wo, rfl⟩ : ∃ wo : World, wo = wr := ⟨_, rfl⟩
          go_loopw [7, 52] (fun v i W => ∃ (k : Nat) (st : List Int), k ≤ own.length ∧ i = .int .i64 k ∧ st = (stkRun room (own.take k)).1 ∧ W.ownsRow ws.heap.size 2 1 v st.length (st.map i64) ∧ Below ws.heap.size ws W) (fun _ i _ => own.length - (intOf i).toNat)
          case atStart => exact ⟨0, [], Nat.zero_le _, rfl, rfl, World.ownsRow_nil _ _ _ _, Below.refl _ _⟩
          case round =>
            obtain ⟨k, st, hk, rfl, hst, hown, hb⟩ := hrel
            have HST := hid hst
            clear hst
            have hsz := hb.size
            obtain ⟨sp, sc, rfl, hsc, hsm, hrs, hsn, hsg⟩ := own_row hown
            have HOWN := hid hown
            have HRS := hid hrs
            clear hown hrs hsn hsg
            unfold maxLen at hsm
            by_cases hlt : k < own.length
            · obtain ⟨b, o, rfl, hbw, hzo⟩ := HRO.out.at (by rw [opCells_len]; omega)
              obtain ⟨hk2, hlk⟩ := HLA.out k hlt
              obtain ⟨b2, o2, rfl, hbw2, hzl⟩ := HRL.out.at (by rw [ansCells_len]; omega)
              clear hzo hzl
              obtain ⟨c1, c2⟩ := op_cells HRO.out k hlt
              obtain ⟨l1, l2⟩ := ans_cells HRL.out k hk2
              have hkI : (k : Int) < own.length := by omega
              have g1 := (hb.cell (p := ⟨b, o + k * 2, none⟩) hbw).trans c1
              have g2 := (hb.cell (p := ⟨b, o + k * 2 + 1, none⟩) hbw).trans c2
              rw [hlk, ← HST.out] at l1 l2
              have HS := hid (stkRun_snoc room (own.take k) own[k])
              rw [← take_succ own k hlt, ← HST.out] at HS
              have hkx := HOK.out.2.2.2.2.2 own[k] (List.getElem_mem hlt)
              clear c1 c2 hk2 hlk
              generalize own[k] = x at *
              obtain ⟨x1, x2⟩ := x
              obtain ⟨ho1, ho2⟩ := hkx
              dsimp only at g1 g2 ho1 ho2
              have hstl : st.length ≤ 300 := by rw [HST.out]; have := stkRun_fst room (own.take k); rw [List.length_take] at this; omega
              have m1 := (hb.cell (p := ⟨b2, o2 + k * 2, none⟩) hbw2).trans l1
              have m2 := (hb.cell (p := ⟨b2, o2 + k * 2 + 1, none⟩) hbw2).trans l2
              clear l1 l2
              by_cases hA : x1 = 1 ∧ st.length < room
              · obtain ⟨rfl, hA2⟩ := hA
                have e1 : stkStep room st (1, x2) = (st ++ [x2], (true, x2)) := if_pos ⟨rfl, hA2⟩
                rw [e1] at m1 m2 HS
                clear e1 ho1 ho2
                have hA3 : decide (st.length < room) = true := by simpa using hA2
                have hb2lt : b2 < wr.heap.size := by omega
                have HB := hid hb
                have HL : Hid (∀ w5, Below ws.heap.size ws w5 → w5.cell? ⟨b2, o2 + k * 2, none⟩ = some (.bool true) ∧ w5.cell? ⟨b2, o2 + k * 2 + 1, none⟩ = some (i64 x2)) := fun w5 hb5 => ⟨(hb5.cell (p := ⟨b2, o2 + k * 2, none⟩) hbw2).trans ((hb.cell (p := ⟨b2, o2 + k * 2, none⟩) hbw2).symm.trans m1), (hb5.cell (p := ⟨b2, o2 + k * 2 + 1, none⟩) hbw2).trans ((hb.cell (p := ⟨b2, o2 + k * 2 + 1, none⟩) hbw2).symm.trans m2)⟩
                clear m1 m2
                go_wp2_with ((with_reducible show wpList _ _ _ (⟨some 72, _, _, _, _, _⟩ :: _) _ _); go_loud (refine wpList_app E43 rfl _ _ rfl ws.heap.size _ _ _ rfl (((HOWN.out.alloc _).alloc _).alloc _) _ 1 1 [i64 x2] rfl rfl (by simp) (row_newAt _ _ _ _ (by simp)) (by simp [Value.oneCell']) (by unfold maxLen; omega) (by omega) (by simp; omega) ?_); intro v5 w5 ho5 hg5 hs5; obtain ⟨hb5, q1, z0, z1, f0, f1, hz5⟩ := aft HOWN.out HB.out hg5; obtain ⟨n1, n2⟩ := HL.out w5 hb5; have HO5 := hid ho5; have HB5 := hid hb5; have HLT5 := hid (own_lt ho5); have HS5 := hid hs5; clear ho5 hg5 hs5 hb5)
                have hne1 : ¬ b2 = wr.heap.size + 1 := by omega
                have hne2 : ¬ wr.heap.size + 1 = b2 := by omega
                go_quiet (fail)
                go_wp2
                go_roundw
                case rel =>
                  refine ⟨k + 1, st ++ [x2], by omega, by go_num, by rw [HS.out], ?_, ?_⟩
                  · simp only [List.length_append, List.length_singleton, List.map_append, List.map_cons, List.map_nil]
                    exact own_drewN (own_setO (own_setO HO5.out ⟨wr.heap.size + 1, 0, none⟩ _ (al_ne HOWN.out HS5.out (by simp))) ⟨wr.heap.size + 1, 1, none⟩ _ (al_ne HOWN.out HS5.out (by simp))) _
                  · exact below_drewN ((HB5.out.setCell (p := ⟨wr.heap.size + 1, 0, none⟩) (by show ws.heap.size ≤ wr.heap.size + 1; omega) _).setCell (p := ⟨wr.heap.size + 1, 1, none⟩) (by show ws.heap.size ≤ wr.heap.size + 1; omega) _) _
                case measure => simp [intOf]; omega
              · by_cases hB : x1 = 1
                · subst hB
                  have hB2 : ¬ st.length < room := fun h => hA ⟨rfl, h⟩
                  have e1 : stkStep room st (1, x2) = (st, (false, 0)) := by unfold stkStep; rw [if_neg hA, if_neg (fun h => by cases h.1)]
                  rw [e1] at m1 m2 HS
                  clear e1 ho1 ho2 hA
                  have hB3 : decide (st.length < room) = false := by simpa using hB2
                  have hB4 : ((1 : Int) == 2) = false := rfl
                  have hb2lt : b2 < wr.heap.size := by omega
                  have HB := hid hb
                  clear hb
                  have hne1 : ¬ b2 = wr.heap.size + 1 := by omega
                  have hne2 : ¬ wr.heap.size + 1 = b2 := by omega
                  go_wp2
                  go_quiet (fail)
                  go_wp2
                  go_roundw
                  case rel => exact ⟨k + 1, st, by omega, by go_num, by rw [HS.out], own_drewN ((HOWN.out.alloc _).alloc _) _, below_drewN ((HB.out.alloc hsz _).alloc (by simp only [World.size_alloc]; omega) _) _⟩
                  case measure => simp [intOf]; omega
                · obtain rfl : x1 = 2 := by omega
                  obtain rfl := ho2 rfl
                  clear ho1 ho2 hA hB
                  rcases List.eq_nil_or_concat st with rfl | ⟨st', y, rfl⟩
                  · have e1 : stkStep room [] (2, 0) = ([], (false, 0)) := by unfold stkStep; rw [if_neg (fun h => by cases h.1), if_neg (fun h => by simp at h)]
                    rw [e1] at m1 m2 HS
                    clear e1
                    have hb2lt : b2 < wr.heap.size := by omega
                    have HB := hid hb
                    clear hb
                    have hne1 : ¬ b2 = wr.heap.size + 1 := by omega
                    have hne2 : ¬ wr.heap.size + 1 = b2 := by omega
                    go_wp2
                    go_quiet (fail)
                    go_wp2
                    go_roundw
                    case rel => exact ⟨k + 1, [], by omega, by go_num, by rw [HS.out], own_drewN ((HOWN.out.alloc _).alloc _) _, below_drewN ((HB.out.alloc hsz _).alloc (by simp only [World.size_alloc]; omega) _) _⟩
                    case measure => simp [intOf]; omega
                  · have e1 : stkStep room (st' ++ [y]) (2, 0) = (st', (true, y)) := by unfold stkStep; rw [if_neg (fun h => by cases h.1), if_pos ⟨rfl, by simp⟩]; simp
                    simp only [List.concat_eq_append] at m1 m2 HS HST HOWN HRS hstl hsc ⊢
                    rw [e1] at m1 m2 HS
                    clear e1
                    have hB := HRS.out
                    obtain ⟨b3, o3, rfl, hb3, hz3⟩ := hB.at (by simp)
                    have hy := hz3 st'.length (by simp)
                    have e2 : (st' ++ [y]).length = st'.length + 1 := by simp
                    simp at hy
                    rw [e2] at hstl hsc HOWN ⊢
                    clear hz3 hB HRS e2
                    obtain ⟨nn, hnn⟩ : ∃ nn, nn = st'.length := ⟨_, rfl⟩
                    rw [← hnn] at hy hstl hsc HOWN ⊢
                    have HNN := hid hnn
                    clear hnn
                    have hpos : decide (0 < nn + 1) = true := by simp
                    have hb2lt : b2 < wr.heap.size := by omega
                    have HB := hid hb
                    clear hb
                    have hne1 : ¬ b2 = wr.heap.size + 1 := by omega
                    have hne2 : ¬ wr.heap.size + 1 = b2 := by omega
                    go_wp2
                    go_quiet (fail)
                    go_wp2
                    go_roundw
                    case rel =>
                      refine ⟨k + 1, st', by omega, by go_num, by rw [HS.out], ?_, below_drewN ((HB.out.alloc hsz _).alloc (by simp only [World.size_alloc]; omega) _) _⟩
                      have h := own_shrink (own_drewN ((HOWN.out.alloc (.cells #[.int .i64 2, .int .i64 0] 27)).alloc (.cells #[.bool true, .int .i64 y] 40)) nq)
                      rw [← HNN.out]
                      simpa using h
                    case measure => simp [intOf]; omega
            · obtain rfl : k = own.length := by omega
              have HST2 : Hid (st = S.left) := by
                have h := HST.out
                rw [List.take_length, HRUN.out] at h
                exact h
              have HLF := hid (mach_left (HMS.out.below hb) HG.out (by omega))
              rw [← HST2.out] at HLF
              have HBB := hid hb
              clear hb
              have hst3 : st.length ≤ 300 := by rw [HST.out]; have := stkRun_fst room (own.take own.length); rw [List.length_take] at this; omega
              go_wp2_with (first
                | (go_at_call 18; refine HLF.out.mono ?_; rintro e w6 ⟨v6, rfl, ho6, hb6⟩; obtain ⟨p6, c6, rfl, _, _, hr6, _, _⟩ := own_row ho6; have HR6 := hid hr6; have HB6 := hid hb6; clear ho6 hr6 hb6)
                | (go_at_call 17; refine (eqL_any p6 sp c6 sc st st w6 HR6.out (HRS.out.below HB6.out) (by unfold maxLen; omega) (by unfold maxLen; omega)).mono ?_; rintro e w7 ⟨rfl, hb7⟩; have HB7 := hid hb7; clear hb7))
              go_ret
              refine ⟨by simp, ?_⟩
              exact ((HBS.out.trans (HBB.out.mono HBS.out.size)).trans (HB6.out.mono (Nat.le_trans HBS.out.size HBB.out.size))).trans (HB7.out.mono (Nat.le_trans HBS.out.size (Nat.le_trans HBB.out.size HB6.out.size)))
    · have HNW := hid (fun w1 (hb : Below w.heap.size w w1) => (new_not (p1 := p) (p2 := none) (c1 := c) (c2 := 0) (w := w1) hn ⟨hr0.below hb, Row.nil _ _, k3, k1, Nat.le_refl _⟩ (by omega) (by simp) (by simp)))
      have hne : (newE r own [] != 0) = true := by simpa using hn
      generalize newE r own [] = en at *
      clear hn
      go_enter Try.func4, Try.ntmps4
      go_wp2_with (first
        | (go_at_call 8; refine begun_any.mono ?_; rintro e w1 ⟨rfl, hb1⟩; have HB1 := hid hb1; clear hb1)
        | (go_at_call 10; refine (HNW.out _ HB1.out).mono ?_; rintro e w2 ⟨rfl, hb2⟩; have HB2 := hid hb2; clear hb2 HNW))
      go_ret
      exact ⟨rfl, HB1.out.trans (HB2.out.mono HB1.out.size)⟩
end Go.Proofs.Ytpgdpddmgljpmaa
