/-
  Two machines that came to the same: alike.
  What a run of the document's machine holds.
-/
import Derived.Test.YthmockfeffikjaaJR0
import Derived.Test.YthmockfeffikjaaJE4
import Derived.Test.YthmockfeffikjaaJE25
import Derived.Test.YthmockfeffikjaaJK3
import Derived.Test.YthmockfeffikjaaJE23
namespace Go.Proofs.Ythmockfeffikjaa
open Go.RowKit
variable {W W' : World} {base B M L R : Nat} {S : SL} {fc fw fcr fwr : Nat → Prop}

theorem RLM.c0 (H : RLM W base R S fc fw) : ∃ d p c zs, W.cell? ⟨R, 0, none⟩ = some (.pointer (some ⟨d, 0, none⟩)) ∧ W.cell? ⟨R, 1, none⟩ = some (.slice (Classical.choose H.r1.2) S.work.length (Classical.choose (Classical.choose_spec H.r1.2))) ∧ R < W.heap.size ∧ d < W.heap.size ∧ W.cell? ⟨d, 0, none⟩ = some (.slice p zs.length c) ∧
    zs.map CeR.x = S.mem.cs ∧ Row W p (ceRow zs) ∧ (∀ z ∈ zs, SlAt W z.p z.c z.x.came) ∧ zs.length ≤ 4096 := by
  have h1 := Classical.choose_spec (Classical.choose_spec H.r1.2)
  obtain ⟨fm, fs, dm, tb, wp, wc, ws, ap, ac, cs, h, _⟩ := H
  obtain ⟨c0, _, _, _, hl⟩ := h.cells
  obtain ⟨v, ys, hm⟩ := h.mem
  obtain ⟨p, c, rfl, _, _, hr, _⟩ := own_row hm.own
  exact ⟨dm, p, c, ys, c0, h1, hl, hm.lt _ hm.fd, cell_of_row _ _ 0 _ _ _ hm.head, hm.cs.symm, hr, hm.sl, by rw [← hm.len]; exact h.n2⟩
theorem RLM.ansAt (H : RLM W base R S fc fw) : ∃ g ac, R < W.heap.size ∧ W.cell? ⟨R, 3, none⟩ = some (.slice g S.said.length ac) ∧ S.said.length ≤ 64 ∧ S.said.length = S.work.length ∧ ∀ k (hk : k < S.said.length), ∃ b q1 qc, g = some ⟨b, 0, none⟩ ∧ b < W.heap.size ∧ W.cell? ⟨b, k, none⟩ = some (.slice q1 (S.said[k]).length qc) ∧ Row W q1 (anRow S.said[k]) ∧ (S.said[k]).length ≤ 4398046511104 := by
  obtain ⟨fm, fs, dm, tb, wp, wc, ws, ap, ac, cs, h, _⟩ := H
  obtain ⟨c0, c1, c2, c3, hl⟩ := h.cells
  refine ⟨ap, ac, hl, c3, by rw [h.ln]; exact h.n1, h.ln, fun k hk => ?_⟩
  have hkc : k < cs.length := by rw [h.an.len]; exact hk
  obtain ⟨g, ac', e, _, hg, _⟩ := own_block h.an.own (by omega)
  cases e
  have he := h.an.each k hkc hk
  obtain ⟨q1, qc, hq, _, _, hr, _⟩ := own_row he
  exact ⟨g, q1, qc, rfl, hg, by rw [(own_cell h.an.own k hkc).1, hq], hr, Nat.le_trans (h.le k hk (by rw [← h.ln]; exact hk)) (h.n3 _ (List.getElem_mem _))⟩
theorem workers_sym {f : FuncId} {args : Array Value} {v : Value} {n : Nat} (h : Calls Try.prog f args W fun e w' => e = .returned v ∧ W = w') (hW : W = W'.drewN n) : Calls Try.prog f args (W'.drewN n) fun e w'' => e = .returned v ∧ ∃ m, w'' = W'.drewN m := by
  subst hW
  exact h.mono fun _ _ ⟨h1, h2⟩ => ⟨h1, n, h2.symm⟩

set_option maxRecDepth 100000 in
set_option maxHeartbeats 8000000 in
theorem alike_any (HL : LM W B L S fc fw) (HR : RLM W M R S fcr fwr) : Calls Try.prog 21 #[.pointer (some ⟨L, 0, none⟩), .pointer (some ⟨R, 0, none⟩)] W fun e w' => e = .returned (.bool true) ∧ Below W.heap.size W w' := by
  have HCE := hid (lcells_any HL)
  have HWK := hid (fun w' (hb : Below W.heap.size W w') => lworkers_any (HL.below hb))
  have HLL := hid HL
  have HRR := hid HR
  obtain ⟨d, p2, c2, zs2, r0, r1, hlR, hld, q0, hz2, hrow2, hsl2, hl2⟩ := HR.c0
  generalize Classical.choose (Classical.choose_spec HR.r1.2) = wc at *
  generalize Classical.choose HR.r1.2 = wp at *
  have HROW2 := hid hrow2
  have HSL2 := hid hsl2
  have HZ2 := hid hz2
  unfold CellsTell at HCE
  clear HL HR hrow2 hsl2 hz2
  go_enter Try.func21, Try.ntmps21
  go_upto_region 2 with (go_at_call 28; (with_reducible refine HCE.out.mono ?_); rintro e w1 ⟨p1, c1, zs1, rfl, hz1, hc1, hm1, hrow1, hsl1, hb1⟩; have HZ1 := hid hz1; have HROW1 := hid hrow1; have HSL1 := hid hsl1; have HB1 := hid hb1; clear hz1 hrow1 hsl1 hb1)
  have hle : zs2.length = zs1.length := by
    have h1 := congrArg List.length HZ1.out
    have h2 := congrArg List.length HZ2.out
    simp at h1 h2
    omega
  have x0 := (HB1.out.cell (p := ⟨R, 0, none⟩) hlR).trans r0
  have x1 := (HB1.out.cell (p := ⟨R, 1, none⟩) hlR).trans r1
  have x2 := (HB1.out.cell (p := ⟨d, 0, none⟩) hld).trans q0
  rw [hle] at x2
  have hne : ((zs1.length : Int) != (zs1.length : Int)) = false := by simp
  go_quiet ((go_at_call 25; exact workers_sym (HWK.out _ (below_drewN HB1.out _)) rfl))
  go_wp2_with fail
  obtain ⟨wd, hwd⟩ : ∃ wd, wd = w1.drewN nq := ⟨_, rfl⟩
  rw [← hwd]
  have HBD : Hid (Below w1.heap.size w1 wd) := by rw [hwd]; exact below_drewN (Below.refl _ _) _
  clear hwd x0 x1 x2 hne
  go_loopw [35] (fun i wr => ∃ k : Nat, k ≤ zs1.length ∧ i = .int .i64 k ∧ Below w1.heap.size w1 wr) (fun i _ => zs1.length - (intOf i).toNat)
  case atStart => exact ⟨0, Nat.zero_le _, rfl, HBD.out⟩
  case round =>
    obtain ⟨k, hk, rfl, hb⟩ := hrel
    have HB := hid hb
    have hw1 : W.heap.size ≤ w1.heap.size := HB1.out.size
    by_cases hlt : k < zs1.length
    · have hltI : (k : Int) < zs1.length := by omega
      have hk0 : (0 : Int) ≤ (k : Int) := by omega
      have hlt2 : k < zs2.length := by omega
      have hxe : zs1[k].x = zs2[k].x := by
        have h1 : (zs1.map CeR.x)[k]? = (zs2.map CeR.x)[k]? := by rw [HZ1.out, HZ2.out]
        simpa [hlt, hlt2] using h1
      obtain ⟨b1, o1, rfl, hb1z, _⟩ := HROW1.out.at (by rw [ceRow_len]; omega)
      obtain ⟨r0', r1', r2', r3', r4', r5', r6'⟩ := ce_cells (HROW1.out.below hb) k hlt
      have hs1 := HSL1.out _ (List.getElem_mem hlt)
      have hs2 := (HSL2.out _ (List.getElem_mem hlt2)).below HB1.out
      have hbw : Below W.heap.size W wr := HB1.out.trans (hb.mono hw1)
      obtain ⟨b2, o2, hp2, hb2z, _⟩ := HROW2.out.at (by rw [ceRow_len]; omega)
      obtain ⟨y, hy⟩ : ∃ y, y = zs1[k] := ⟨_, rfl⟩
      obtain ⟨y2, hy2⟩ : ∃ y2, y2 = zs2[k] := ⟨_, rfl⟩
      have hrow2 := HROW2.out
      rw [hp2] at hrow2
      obtain ⟨t0, t1, t2, t3, t4, t5, t6⟩ := ce_cells hrow2 k hlt2
      rw [← hy] at r0' r1' r2' r3' r4' r5' r6' hs1 hxe
      rw [← hy2] at t0 t1 t2 t3 t4 t5 t6 hs2 hxe
      clear hy hy2 hrow2
      subst hp2
      obtain ⟨yx, yp, yc⟩ := y
      obtain ⟨yx2, yp2, yc2⟩ := y2
      dsimp only at *
      subst hxe
      have HSM := hid (fun w' (hb : Below w1.heap.size w1 w') => rsame_any yx yx yp yp2 yc yc2 w' (hs1.below hb) (hs2.below hb))
      obtain ⟨kind, n, owner, need, came, turns, there⟩ := yx
      unfold Ce.val at HSM
      dsimp only at *
      have up : ∀ w' (c j : Nat) (u : Value), Below w1.heap.size w1 w' → c < W.heap.size → W.cell? ⟨c, j, none⟩ = some u → w'.cell? ⟨c, j, none⟩ = some u := fun w' c j u hbb hl h => ((HB1.out.trans (hbb.mono hw1)).cell (p := ⟨c, j, none⟩) hl).trans h
      go_upto_region 7 with (fail)
      obtain ⟨wx, hwx⟩ : ∃ wx, wx = wr.alloc (.cells #[i64 kind, i64 n, i64 owner, i64 need, .slice yp came.length yc, i64 turns, .bool there] 30) := ⟨_, rfl⟩
      rw [← hwx]
      have hbx : Below w1.heap.size w1 wx := by rw [hwx]; exact hb.alloc hb.size _
      have hcx : CeBlk wx wr.heap.size ⟨kind, n, owner, need, came, turns, there⟩ yp yc := by rw [hwx]; exact ceblk_new wr ⟨kind, n, owner, need, came, turns, there⟩ yp yc
      have HBX := hid hbx
      have HCX := hid hcx
      have ux : ∀ w', Below wx.heap.size wx w' → Below w1.heap.size w1 w' := fun w' h => HBX.out.trans (h.mono HBX.out.size)
      have f0 := fun w' hb => up w' _ _ _ (ux w' hb) hlR r0
      have f2 := fun w' hb => up w' _ _ _ (ux w' hb) hld q0
      have g0 := fun w' hb => up w' _ _ _ (ux w' hb) hb2z t0
      have g1 := fun w' hb => up w' _ _ _ (ux w' hb) hb2z t1
      have g2 := fun w' hb => up w' _ _ _ (ux w' hb) hb2z t2
      have g3 := fun w' hb => up w' _ _ _ (ux w' hb) hb2z t3
      have g4 := fun w' hb => up w' _ _ _ (ux w' hb) hb2z t4
      have g5 := fun w' hb => up w' _ _ _ (ux w' hb) hb2z t5
      have g6 := fun w' hb => up w' _ _ _ (ux w' hb) hb2z t6
      have e0 : ∀ w', Below wx.heap.size wx w' → w'.cell? ⟨wr.heap.size, 0, none⟩ = some (i64 kind) := fun w' hb => (HCX.out.below hb).facts.1.1
      have e1 : ∀ w', Below wx.heap.size wx w' → w'.cell? ⟨wr.heap.size, 1, none⟩ = some (i64 n) := fun w' hb => (HCX.out.below hb).facts.1.2.1
      have e2 : ∀ w', Below wx.heap.size wx w' → w'.cell? ⟨wr.heap.size, 2, none⟩ = some (i64 owner) := fun w' hb => (HCX.out.below hb).facts.1.2.2.1
      have e3 : ∀ w', Below wx.heap.size wx w' → w'.cell? ⟨wr.heap.size, 3, none⟩ = some (i64 need) := fun w' hb => (HCX.out.below hb).facts.1.2.2.2.1
      have e4 : ∀ w', Below wx.heap.size wx w' → w'.cell? ⟨wr.heap.size, 4, none⟩ = some (.slice yp came.length yc) := fun w' hb => (HCX.out.below hb).facts.1.2.2.2.2.1
      have e5 : ∀ w', Below wx.heap.size wx w' → w'.cell? ⟨wr.heap.size, 5, none⟩ = some (i64 turns) := fun w' hb => (HCX.out.below hb).facts.1.2.2.2.2.2.1
      have e6 : ∀ w', Below wx.heap.size wx w' → w'.cell? ⟨wr.heap.size, 6, none⟩ = some (.bool there) := fun w' hb => (HCX.out.below hb).facts.1.2.2.2.2.2.2
      have hS0 : Below wx.heap.size wx wx.drew := (Below.refl _ _).drew
      clear hwx hbx hcx up ux r0' r1' r2' r3' r4' r5' r6' t0 t1 t2 t3 t4 t5 t6 hs1 hs2 hb hbw
      go_region_held3 (fun w' => Below wx.heap.size wx w') (first | (with_reducible assumption) | exact (Below.refl _ _).drew)
        (first | (go_at_call 41; (with_reducible refine (HSM.out _ (HBX.out.trans (Below.mono (by first | (with_reducible assumption) | exact (Below.refl _ _).drew) HBX.out.size))).mono ?_); rintro e w7 ⟨rfl, hb7⟩; have hq7 : Below wx.heap.size wx w7 := below_more hb7 (by first | (with_reducible assumption) | exact (Below.refl _ _).drew) (Nat.le_refl _)))
      all_goals
        have HQ := hid hq7
        clear hq7 f0 f2 g0 g1 g2 g3 g4 g5 g6 e0 e1 e2 e3 e4 e5 e6 hS0
        go_wp2_with fail
        go_roundw
        case rel => exact ⟨k + 1, by omega, by go_num, HBX.out.trans (HQ.out.mono HBX.out.size)⟩
        case measure => simp [intOf]; omega
    · have hltI : ¬ ((k : Int) < zs1.length) := by omega
      have hbw : Below W.heap.size W wr := HB1.out.trans (hb.mono hw1)
      obtain ⟨g, ac, _, c3, h64, hln, hall⟩ := HRR.out.ansAt
      have HALL := hid hall
      have c3w := (hbw.cell (p := ⟨R, 3, none⟩) hlR).trans c3
      clear hb hall
      go_wp2_with fail
      obtain ⟨we, hwe⟩ : ∃ we, we = wr := ⟨_, rfl⟩
      rw [← hwe] at hbw ⊢
      have HBW := hid hbw
      clear hwe hbw c3w c3 r0 r1 q0
      go_loopw [59] (fun i wr => ∃ k : Nat, k ≤ S.said.length ∧ i = .int .i64 k ∧ Below W.heap.size W wr) (fun i _ => S.said.length - (intOf i).toNat)
      case atStart => exact ⟨0, Nat.zero_le _, rfl, HBW.out⟩
      case round =>
        obtain ⟨j, hj, rfl, hb⟩ := hrel
        have HBJ := hid hb
        by_cases hlt2 : j < S.said.length
        · have hltI2 : (j : Int) < S.said.length := by omega
          obtain ⟨b, q1, qc, rfl, hbz, hcell, hrow, hlen⟩ := HALL.out j hlt2
          have hcellw := (hb.cell (p := ⟨b, j, none⟩) hbz).trans hcell
          have hans : S.ans (j : Int) = S.said[j] := by
            unfold SL.ans
            rw [if_pos (by omega), Int.toNat_natCast]
            simp [List.getD_eq_getElem?_getD, hlt2]
          have HAN := hid (fun w' (hb : Below W.heap.size W w') => lanswers_any (HLL.out.below hb) j)
          unfold AnTell at HAN
          simp only [hans] at HAN
          have HD1 := hid (fun w' (hb : Below W.heap.size W w') => ldone_any (HLL.out.below hb) j)
          have HD2 := hid (fun w' (hb : Below W.heap.size W w') => rdone_below (rdone_any (HRR.out.below hb) j))
          have HW1 := hid (fun w' (hb : Below W.heap.size W w') => lwaits_any (HLL.out.below hb) j)
          have HW2 := hid (fun w' (hb : Below W.heap.size W w') => rlwaits_any (HRR.out.below hb) j)
          generalize S.doneN j = dn at *
          generalize S.waitsN j = wn at *
          have HROW := hid hrow
          generalize S.said[j] = l at *
          have hdn : (dn != dn) = false := by simp
          have hwn : (wn != wn) = false := by simp
          clear hb hans hrow hcell
          go_wp2_with (first
            | (go_at_call 18; (with_reducible refine (HAN.out _ HBJ.out).mono ?_); rintro e u1 ⟨p1, k1, rfl, hr1, hb1⟩; have HX1 := hid (below_tr hb1 HBJ.out (Nat.le_refl _)); have HSA := hid (same_true l p1 q1 k1 qc u1 (by omega) hr1 (HROW.out.below HX1.out)); clear hr1 hb1)
            | (go_at_call 17; (with_reducible refine HSA.out.mono ?_); rintro e u2 ⟨rfl, hb2⟩; have HX2 := hid (below_tr hb2 HX1.out (Nat.le_refl _)); clear hb2)
            | (go_at_call 26; (with_reducible refine (HD1.out _ HX2.out).mono ?_); rintro e u3 ⟨rfl, hb3⟩; have HX3 := hid (below_tr hb3 HX2.out (Nat.le_refl _)); clear hb3)
            | (go_at_call 35; (with_reducible refine (HD2.out _ HX3.out).mono ?_); rintro e u4 ⟨rfl, hb4⟩; have HX4 := hid (below_tr hb4 HX3.out (Nat.le_refl _)); clear hb4)
            | (go_at_call 27; (with_reducible refine (HW1.out _ HX4.out).mono ?_); rintro e u5 ⟨rfl, hb5⟩; have HX5 := hid (below_tr hb5 HX4.out (Nat.le_refl _)); clear hb5)
            | (go_at_call 36; (with_reducible refine (HW2.out _ HX5.out).mono ?_); rintro e u6 ⟨rfl, hb6⟩; have HX6 := hid (below_tr hb6 HX5.out (Nat.le_refl _)); clear hb6))
          go_roundw
          case rel => exact ⟨j + 1, by omega, by go_num, HX6.out⟩
          case measure => simp [intOf]; omega
        · have hltI2 : ¬ ((j : Int) < S.said.length) := by omega
          go_wp2_with fail
          go_ret
          exact ⟨rfl, hb⟩
end Go.Proofs.Ythmockfeffikjaa
namespace Go.Proofs.Ythmockfeffikjaa
open Go.RowKit
variable {W W' wr w4 : World} {base R : Nat} {S S' : SL} {fcr fwr : Nat → Prop} {r : Rn}

structure RR (W : World) (base R : Nat) (fcr fwr : Nat → Prop) (S : SL) (r : Rn) (wr : World) : Prop where
  m : ∃ fc', RLM wr base R S fc' fwr ∧ ∀ k, fc' k → fcr k ∨ W.heap.size + 2 ≤ k
  t : Turn fcr W wr
  b : Below base W wr
  z : W.heap.size + 2 ≤ wr.heap.size
  n : wr.heap[W.heap.size + 1]? = some (.cells #[i64 r.p, i64 r.s, i64 r.t] 40 (0, 0))
  o : wr.heap[W.heap.size]? = some (.cells #[i64 0, i64 0, i64 0] 40 (0, 0))
  bs : base ≤ W.heap.size
  lt : ∀ k, fcr k ∨ fwr k → k < W.heap.size
theorem RR.start (H : RLM W base R S fcr fwr) : RR W base R fcr fwr S ⟨0, 0, 0⟩ ((W.alloc (.cells #[i64 0, i64 0, i64 0] 40)).alloc (.cells #[i64 0, i64 0, i64 0] 40)) := by
  have hb : Below W.heap.size W ((W.alloc (.cells #[i64 0, i64 0, i64 0] 40)).alloc (.cells #[i64 0, i64 0, i64 0] 40)) := ((Below.refl _ _).alloc (Nat.le_refl _) _).alloc (by simp) _
  refine ⟨⟨fcr, H.below hb, fun k h => .inl h⟩, Turn.of_below hb, hb.mono H.bs, by simp, ?_, (Below.heap_alloc _ _ _ (by simp)).trans (heap_alloc_new W _), H.bs, H.lt⟩
  have := heap_alloc_new (W.alloc (.cells #[i64 0, i64 0, i64 0] 40)) (.cells #[i64 0, i64 0, i64 0] 40 (0, 0))
  rw [World.size_alloc] at this
  exact this
theorem RR.below (H : RR W base R fcr fwr S r wr) (hb : Below wr.heap.size wr w4) : RR W base R fcr fwr S r w4 := by
  obtain ⟨fc', h, hf⟩ := H.m
  have hz := H.z
  have hz4 := hb.size
  have := H.bs
  exact ⟨⟨fc', h.below hb, hf⟩, ⟨hb.os.trans H.t.os, hb.tape.trans H.t.tape, hb.output.trans H.t.output, by omega, fun k hk hn => (hb.block k (by omega)).trans (H.t.block k hk hn)⟩, H.b.trans (hb.mono (by omega)), by omega, (hb.block _ (by omega)).trans H.n, (hb.block _ (by omega)).trans H.o, H.bs, H.lt⟩
theorem RR.step {fc' : Nat → Prop} {e : Ending} (H : RR W base R fcr fwr S r wr) (hf : ∀ k, fc' k → fcr k ∨ W.heap.size + 2 ≤ k) (hs : RStep wr base R S' fc' fwr e w4) : RR W base R fcr fwr S' r w4 := by
  obtain ⟨_, fc2, h2, hf2, ht, hb⟩ := hs
  have hz := H.z
  have hz4 := ht.size
  have hn : ∀ k, k < W.heap.size + 2 → ¬ fcr k → ¬ fc' k := fun k hk hn h => by
    rcases hf k h with h1 | h1
    · exact hn h1
    · omega
  have hlt := H.lt
  refine ⟨⟨fc2, h2, fun k h => ?_⟩, ⟨ht.os.trans H.t.os, ht.tape.trans H.t.tape, ht.output.trans H.t.output, by omega, fun k hk hn2 => (ht.block k (by omega) (hn k (by omega) hn2)).trans (H.t.block k hk hn2)⟩, H.b.trans hb, by omega, (ht.block _ (by omega) (hn _ (by omega) (fun h => by have := hlt _ (.inl h); omega))).trans H.n, (ht.block _ (by omega) (hn _ (by omega) (fun h => by have := hlt _ (.inl h); omega))).trans H.o, H.bs, H.lt⟩
  rcases hf2 k h with h1 | h1
  · exact hf k h1
  · exact .inr (by omega)
theorem RR.set (H : RR W base R fcr fwr S r wr) (o : Nat) (v : Value) (r' : Rn) (hn : (wr.setCell ⟨W.heap.size + 1, o, none⟩ v).heap[W.heap.size + 1]? = some (.cells #[i64 r'.p, i64 r'.s, i64 r'.t] 40 (0, 0))) : RR W base R fcr fwr S r' (wr.setCell ⟨W.heap.size + 1, o, none⟩ v) := by
  obtain ⟨fc', h, hf⟩ := H.m
  have hg := grown_set wr (W.heap.size + 1) o v
  have hlt := H.lt
  have hbs := H.bs
  have hsz : (wr.setCell ⟨W.heap.size + 1, o, none⟩ v).heap.size = wr.heap.size := by simp
  have hz := H.z
  refine ⟨⟨fc', h.kept (fun k hk => Below.heap_setCell _ _ _ _ (fun e => ?_)) (by omega), hf⟩, ⟨hg.os.trans H.t.os, hg.tape.trans H.t.tape, hg.output.trans H.t.output, by omega, fun k hk hn2 => (Below.heap_setCell _ _ _ _ (fun e => by have e : k = W.heap.size + 1 := e; omega)).trans (H.t.block k hk hn2)⟩, H.b.setCell (show base ≤ W.heap.size + 1 by omega) _, by omega, hn, (Below.heap_setCell _ _ _ _ (fun e => by have e : W.heap.size = W.heap.size + 1 := e; omega)).trans H.o, H.bs, H.lt⟩
  have e : k = W.heap.size + 1 := e
  subst e
  rcases hk with h1 | h1
  · rcases hf _ h1 with h2 | h2
    · have := hlt _ (.inl h2); omega
    · omega
  · have := hlt _ (.inr h1); omega
theorem RR.setP (H : RR W base R fcr fwr S r wr) : RR W base R fcr fwr S ⟨r.p + 1, r.s, r.t⟩ (wr.setCell ⟨W.heap.size + 1, 0, none⟩ (i64 (r.p + 1))) := H.set 0 _ _ (heap_setCell_same wr _ 0 _ _ _ H.n)
theorem RR.setS (H : RR W base R fcr fwr S r wr) : RR W base R fcr fwr S ⟨r.p, r.s + 1, r.t⟩ (wr.setCell ⟨W.heap.size + 1, 1, none⟩ (i64 (r.s + 1))) := H.set 1 _ _ (heap_setCell_same wr _ 1 _ _ _ H.n)
theorem RR.setT (H : RR W base R fcr fwr S r wr) : RR W base R fcr fwr S ⟨r.p, r.s, r.t + 1⟩ (wr.setCell ⟨W.heap.size + 1, 2, none⟩ (i64 (r.t + 1))) := H.set 2 _ _ (heap_setCell_same wr _ 2 _ _ _ H.n)
theorem RR.facts (H : RR W base R fcr fwr S r wr) : (wr.cell? ⟨W.heap.size + 1, 0, none⟩ = some (i64 r.p) ∧ wr.cell? ⟨W.heap.size + 1, 1, none⟩ = some (i64 r.s) ∧ wr.cell? ⟨W.heap.size + 1, 2, none⟩ = some (i64 r.t) ∧ (∀ o, wr.frozen? ⟨W.heap.size + 1, o, none⟩ = false) ∧ W.heap.size + 1 < wr.heap.size) ∧
    (wr.cell? ⟨W.heap.size, 0, none⟩ = some (i64 0) ∧ wr.cell? ⟨W.heap.size, 1, none⟩ = some (i64 0) ∧ wr.cell? ⟨W.heap.size, 2, none⟩ = some (i64 0) ∧ (∀ o, wr.frozen? ⟨W.heap.size, o, none⟩ = false) ∧ W.heap.size < wr.heap.size) :=
  ⟨⟨cell_of_row _ _ 0 _ _ _ H.n, cell_of_row _ _ 1 _ _ _ H.n, cell_of_row _ _ 2 _ _ _ H.n, fun o => frozen_of_row _ _ o _ _ H.n, by have := H.z; omega⟩, ⟨cell_of_row _ _ 0 _ _ _ H.o, cell_of_row _ _ 1 _ _ _ H.o, cell_of_row _ _ 2 _ _ _ H.o, fun o => frozen_of_row _ _ o _ _ H.o, by have := H.z; omega⟩⟩
def RRunTell (W : World) (base R : Nat) (fcr fwr : Nat → Prop) (T : SL × Rn × Int) (e : Ending) (w' : World) : Prop :=
  e = .returned (.tuple #[.agg #[i64 T.2.1.p, i64 T.2.1.s, i64 T.2.1.t], i64 T.2.2]) ∧ (∃ fc2, RLM w' base R T.1 fc2 fwr ∧ ∀ k, fc2 k → fcr k ∨ W.heap.size + 2 ≤ k) ∧ Turn fcr W w' ∧ Below base W w'
/-- A store into a block that is not the machine's, nor one of those that were there. -/
theorem rr_store {fc' : Nat → Prop} (hm : RLM wr base R S fc' fwr) (hf : ∀ k, fc' k → fcr k ∨ W.heap.size + 2 ≤ k) (hlt : ∀ k, fcr k ∨ fwr k → k < W.heap.size) (ht : Turn fcr W wr) (hb : Below base W wr) (hbs : base ≤ W.heap.size) (o : Nat) (v : Value) :
    RLM (wr.setCell ⟨W.heap.size, o, none⟩ v) base R S fc' fwr ∧ Turn fcr W (wr.setCell ⟨W.heap.size, o, none⟩ v) ∧ Below base W (wr.setCell ⟨W.heap.size, o, none⟩ v) := by
  have hg := grown_set wr W.heap.size o v
  have hsz : (wr.setCell ⟨W.heap.size, o, none⟩ v).heap.size = wr.heap.size := by simp
  have hts := ht.size
  refine ⟨hm.kept (fun k hk => Below.heap_setCell _ _ _ _ (fun e => ?_)) (by omega), ⟨hg.os.trans ht.os, hg.tape.trans ht.tape, hg.output.trans ht.output, by omega, fun k hk hn2 => (Below.heap_setCell _ _ _ _ (fun e => by have e : k = W.heap.size := e; omega)).trans (ht.block k hk hn2)⟩, hb.setCell (show base ≤ W.heap.size by omega) _⟩
  have e : k = W.heap.size := e
  subst e
  rcases hk with h1 | h1
  · rcases hf _ h1 with h2 | h2
    · have := hlt _ (.inl h2); omega
    · omega
  · have := hlt _ (.inr h1); omega
theorem RR.tell (H : RR W base R fcr fwr S r wr) (c : Int) (v0 v1 v2 : Value) :
    RRunTell W base R fcr fwr (S, r, c) (.returned (.tuple #[.agg #[i64 r.p, i64 r.s, i64 r.t], i64 c])) (((wr.setCell ⟨W.heap.size, 0, none⟩ v0).setCell ⟨W.heap.size, 1, none⟩ v1).setCell ⟨W.heap.size, 2, none⟩ v2) := by
  obtain ⟨fc', h, hf⟩ := H.m
  obtain ⟨a1, a2, a3⟩ := rr_store h hf H.lt H.t H.b H.bs 0 v0
  obtain ⟨b1, b2, b3⟩ := rr_store a1 hf H.lt a2 a3 H.bs 1 v1
  obtain ⟨c1, c2, c3⟩ := rr_store b1 hf H.lt b2 b3 H.bs 2 v2
  exact ⟨rfl, ⟨fc', c1, hf⟩, c2, c3⟩
end Go.Proofs.Ythmockfeffikjaa
