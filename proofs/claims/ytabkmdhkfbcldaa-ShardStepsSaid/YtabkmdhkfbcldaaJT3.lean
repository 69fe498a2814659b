/-
  The document's table: Step, state 2 (printed by genrstep.py).
-/
import Derived.Test.YtabkmdhkfbcldaaJT2
namespace Go.Proofs.Ytabkmdhkfbcldaa
open Go.RowKit
variable {W W' : World} {base r : Nat} {K : Wk} {S : Sh} {B : RB}
theorem grown_undrew {w w1 : World} {row : Option Nat} (h : w.drew.grownBy w1 row) : w.grownBy w1 row := by
  obtain ⟨a, b, c, d, e⟩ := h
  exact ⟨a, b, c, d, e⟩
theorem rw_ones (c : Rw) : ∀ u ∈ Rw.cells c, u.oneCell' = true := fun u hu => by
  simp [Rw.cells] at hu
  rcases hu with rfl | rfl | rfl <;> rfl

set_option maxRecDepth 20000 in
set_option maxHeartbeats 4000000 in
theorem rstep2 (h : RIs W base r K S B) (hbs : base ≤ W.heap.size) (HK : WkOk K) (ho : ShOk K S) (hrl : S.rows.length ≤ 1000000) (k : Nat) (hk : k < K.work.length) (hcan : S.canN K k = true) (hx : (S.hand k).at_ = 2) (hst : S.steps ≤ 1000000) (hsz : ∀ k, (K.own k).length ≤ 1000000) :
    Calls Try.prog 21 #[.pointer (some ⟨r, 0, none⟩), .int .i64 (k : Nat)] W (RStep W base r K B (S.stepN K k)) := by
  have hn := ho.nx hk (can_facts hcan).1
  have HD := hid (rdone h hsz (k : Int))
  have hdf : S.doneI K (k : Int) = false := by
    unfold Sh.doneI
    rw [Int.toNat_natCast, (can_facts hcan).1]
    simp; omega
  have HW := hid (fun (w1 : World) (hb : Below W.heap.size W w1) => rwaits_not (h.below hb) HK hsz hrl k hk hdf hn)
  have hwf : S.waitsI K (k : Int) = false := by unfold Sh.waitsI; rw [Int.toNat_natCast, (can_facts hcan).2, hdf]; rfl
  rw [hwf] at HW
  rw [hdf] at HD
  obtain ⟨c0, c1, c2, c3, c4, c5, c6, c7⟩ := h.cells
  obtain ⟨b, o, qb, qo, ca, hwv, d0, hbl, hqb, e0, e1, e2⟩ := h.askAt hk hn
  have d1 := h.nextAt hk
  have hol := hsz k
  rw [hwv] at c3
  have hkI : (k : Int) < K.work.length := by omega
  have hnI : ((S.next.getD k 0 : Nat) : Int) < (K.own k).length := by omega
  obtain ⟨l0, l1, l2, l3⟩ := h.lt
  have gg : ∀ {a : Addr} {v : Value}, a.block < W.heap.size → W.cell? a = some v → ∀ w', Below W.heap.size W w' → w'.cell? a = some v := fun ha hv w' hb => (hb.cell ha).trans hv
  have g3 := gg (a := ⟨r, 3, none⟩) l0 c3
  have g4 := gg (a := ⟨r, 4, none⟩) l0 c4
  have gd0 := gg (a := ⟨b, o + k, none⟩) hbl d0
  have gd1 := gg (a := ⟨B.bn, k, none⟩) l2 d1
  have ge0 := gg (a := ⟨qb, qo + S.next.getD k 0 * 3, none⟩) hqb e0
  have ge1 := gg (a := ⟨qb, qo + S.next.getD k 0 * 3 + 1, none⟩) hqb e1
  have ge2 := gg (a := ⟨qb, qo + S.next.getD k 0 * 3 + 2, none⟩) hqb e2
  have HH := hid h
  have HNX := hid hn
  have HBS := hid hbs
  generalize S.next.getD k 0 = nx at c0 c1 c2 c3 c4 c5 c6 c7 d0 d1 e0 e1 e2 gd0 gd1 ge0 ge1 ge2 hn hnI
  generalize (K.own k).length = ol at c0 c1 c2 c3 c4 c5 c6 c7 d0 d1 e0 e1 e2 gd0 gd1 ge0 ge1 ge2 hn hnI hol
  generalize hak : S.ask K k = ak at e0 e1 e2 ge0 ge1 ge2
  obtain ⟨S2, hS2⟩ : ∃ S2, S2 = S.stepN K k := ⟨_, rfl⟩
  rw [← hS2]
  rw [step_is hcan] at hS2
  unfold Sh.body at hS2
  dsimp only at hS2
  simp only [hx, hak] at hS2
  have HS2 := hid hS2
  have HAK := hid hak
  clear c0 c1 c2 c3 c4 c5 c6 c7 d0 d1 e0 e1 e2 gg h hdf hwf hbs hS2 hak
  go_enter Try.func21, Try.ntmps21
  go_upto_region 1 with (first
    | (go_at_call 24; (with_reducible refine HD.out.mono ?_); rintro e w1 ⟨rfl, hq1⟩; have HW1 : Hid (Below W.heap.size W w1) := (by obtain ⟨q, rfl⟩ := hq1; exact below_drewN (Below.refl _ _) q); clear hq1)
    | (go_at_call 25; (with_reducible refine (HW.out _ HW1.out).mono ?_); rintro e w2 ⟨rfl, hb2⟩; have HW2 : Hid (Below W.heap.size W w2) := below_more hb2 HW1.out (Nat.le_refl _); clear hb2))
  go_cut [4] (fun v wx => AkV W ak v wx)
  case first =>
    refine wp_region_held_drew (S := fun w' => Below W.heap.size W w') (by kernel_rfl) HW2.out.drew (fun hHeld => ?_)
    refine wpAnyH_take (i := 0) (oi := { dst := some 14, op := Op.move (Operand.tmp 0), type := 34, pos := "ref.go:148", after := #[], guard := none }) (v := ?wav0) rfl (by kernel_rfl) (by kernel_rfl) (by kernel_rfl) (fun _ _ _ h => h) (Or.inl ⟨by rfl, ?wah0⟩) (by assumption) ?war0
    case wah0 => ((intro w hSw; (try dsimp only at hSw); go_simp); try with_reducible rfl)
    try simp only [Act.put, List.setIfInBounds_toArray, List.set_cons_zero, List.set_cons_succ]
    refine wpAnyH_take (i := 1) (oi := { dst := some 15, op := Op.nilCheck (Operand.tmp 14), type := 0, pos := "ref.go:148", after := #[{ on := 0, ground := Ground.data }], guard := none }) (v := ?wav1) rfl (by kernel_rfl) (by kernel_rfl) (by kernel_rfl) (fun _ _ _ h => h) (Or.inl ⟨by rfl, ?wah1⟩) (by assumption) ?war1
    case wah1 => ((intro w hSw; (try dsimp only at hSw); go_simp); try with_reducible rfl)
    try simp only [Act.put, List.setIfInBounds_toArray, List.set_cons_zero, List.set_cons_succ]
    refine wpAnyH_take (i := 2) (oi := { dst := some 16, op := Op.fieldAddr 84 (Operand.tmp 15) 3, type := 0, pos := "ref.go:148", after := #[{ on := 1, ground := Ground.data }], guard := none }) (v := ?wav2) rfl (by kernel_rfl) (by kernel_rfl) (by kernel_rfl) (fun _ _ _ h => h) (Or.inl ⟨by rfl, ?wah2⟩) (by assumption) ?war2
    case wah2 => ((intro w hSw; (try dsimp only at hSw); go_simp); try with_reducible rfl)
    try simp only [Act.put, List.setIfInBounds_toArray, List.set_cons_zero, List.set_cons_succ]
    refine wpAnyH_take (i := 3) (oi := { dst := some 17, op := Op.load 27 (Operand.tmp 16), type := 27, pos := "ref.go:148", after := #[{ on := 2, ground := Ground.data }], guard := none }) (v := ?wav3) rfl (by kernel_rfl) (by kernel_rfl) (by kernel_rfl) (fun _ _ _ h => h) (Or.inl ⟨by rfl, ?wah3⟩) (by assumption) ?war3
    case wah3 => ((intro w hSw; (try dsimp only at hSw); go_simp); try with_reducible rfl)
    try simp only [Act.put, List.setIfInBounds_toArray, List.set_cons_zero, List.set_cons_succ]
    refine wpAnyH_take (i := 4) (oi := { dst := some 18, op := Op.move (Operand.tmp 1), type := 3, pos := "ref.go:148", after := #[], guard := none }) (v := ?wav4) rfl (by kernel_rfl) (by kernel_rfl) (by kernel_rfl) (fun _ _ _ h => h) (Or.inl ⟨by rfl, ?wah4⟩) (by assumption) ?war4
    case wah4 => ((intro w hSw; (try dsimp only at hSw); go_simp); try with_reducible rfl)
    try simp only [Act.put, List.setIfInBounds_toArray, List.set_cons_zero, List.set_cons_succ]
    refine wpAnyH_take (i := 5) (oi := { dst := some 19, op := Op.indexAddr 27 (Operand.tmp 17) (Operand.tmp 18), type := 0, pos := "ref.go:148", after := #[{ on := 3, ground := Ground.data }, { on := 4, ground := Ground.data }], guard := none }) (v := ?wav5) rfl (by kernel_rfl) (by kernel_rfl) (by kernel_rfl) (fun _ _ _ h => h) (Or.inl ⟨by rfl, ?wah5⟩) (by assumption) ?war5
    case wah5 => ((intro w hSw; (try dsimp only at hSw); go_simp); try with_reducible rfl)
    try simp only [Act.put, List.setIfInBounds_toArray, List.set_cons_zero, List.set_cons_succ]
    refine wpAnyH_take (i := 6) (oi := { dst := some 20, op := Op.load 71 (Operand.tmp 19), type := 71, pos := "ref.go:148", after := #[{ on := 5, ground := Ground.data }], guard := none }) (v := ?wav6) rfl (by kernel_rfl) (by kernel_rfl) (by kernel_rfl) (fun _ _ _ h => h) (Or.inl ⟨by rfl, ?wah6⟩) (by assumption) ?war6
    case wah6 => ((intro w hSw; (try dsimp only at hSw); go_simp); try with_reducible rfl)
    try simp only [Act.put, List.setIfInBounds_toArray, List.set_cons_zero, List.set_cons_succ]
    refine wpAnyH_take (i := 7) (oi := { dst := some 21, op := Op.move (Operand.tmp 0), type := 34, pos := "ref.go:148", after := #[], guard := none }) (v := ?wav7) rfl (by kernel_rfl) (by kernel_rfl) (by kernel_rfl) (fun _ _ _ h => h) (Or.inl ⟨by rfl, ?wah7⟩) (by assumption) ?war7
    case wah7 => ((intro w hSw; (try dsimp only at hSw); go_simp); try with_reducible rfl)
    try simp only [Act.put, List.setIfInBounds_toArray, List.set_cons_zero, List.set_cons_succ]
    refine wpAnyH_take (i := 8) (oi := { dst := some 22, op := Op.nilCheck (Operand.tmp 21), type := 0, pos := "ref.go:148", after := #[{ on := 7, ground := Ground.data }], guard := none }) (v := ?wav8) rfl (by kernel_rfl) (by kernel_rfl) (by kernel_rfl) (fun _ _ _ h => h) (Or.inl ⟨by rfl, ?wah8⟩) (by assumption) ?war8
    case wah8 => ((intro w hSw; (try dsimp only at hSw); go_simp); try with_reducible rfl)
    try simp only [Act.put, List.setIfInBounds_toArray, List.set_cons_zero, List.set_cons_succ]
    refine wpAnyH_take (i := 9) (oi := { dst := some 23, op := Op.fieldAddr 84 (Operand.tmp 22) 4, type := 0, pos := "ref.go:148", after := #[{ on := 8, ground := Ground.data }], guard := none }) (v := ?wav9) rfl (by kernel_rfl) (by kernel_rfl) (by kernel_rfl) (fun _ _ _ h => h) (Or.inl ⟨by rfl, ?wah9⟩) (by assumption) ?war9
    case wah9 => ((intro w hSw; (try dsimp only at hSw); go_simp); try with_reducible rfl)
    try simp only [Act.put, List.setIfInBounds_toArray, List.set_cons_zero, List.set_cons_succ]
    refine wpAnyH_take (i := 10) (oi := { dst := some 24, op := Op.load 62 (Operand.tmp 23), type := 62, pos := "ref.go:148", after := #[{ on := 9, ground := Ground.data }], guard := none }) (v := ?wav10) rfl (by kernel_rfl) (by kernel_rfl) (by kernel_rfl) (fun _ _ _ h => h) (Or.inl ⟨by rfl, ?wah10⟩) (by assumption) ?war10
    case wah10 => ((intro w hSw; (try dsimp only at hSw); go_simp); try with_reducible rfl)
    try simp only [Act.put, List.setIfInBounds_toArray, List.set_cons_zero, List.set_cons_succ]
    refine wpAnyH_take (i := 11) (oi := { dst := some 25, op := Op.move (Operand.tmp 1), type := 3, pos := "ref.go:148", after := #[], guard := none }) (v := ?wav11) rfl (by kernel_rfl) (by kernel_rfl) (by kernel_rfl) (fun _ _ _ h => h) (Or.inl ⟨by rfl, ?wah11⟩) (by assumption) ?war11
    case wah11 => ((intro w hSw; (try dsimp only at hSw); go_simp); try with_reducible rfl)
    try simp only [Act.put, List.setIfInBounds_toArray, List.set_cons_zero, List.set_cons_succ]
    refine wpAnyH_take (i := 12) (oi := { dst := some 26, op := Op.indexAddr 62 (Operand.tmp 24) (Operand.tmp 25), type := 0, pos := "ref.go:148", after := #[{ on := 10, ground := Ground.data }, { on := 11, ground := Ground.data }], guard := none }) (v := ?wav12) rfl (by kernel_rfl) (by kernel_rfl) (by kernel_rfl) (fun _ _ _ h => h) (Or.inl ⟨by rfl, ?wah12⟩) (by assumption) ?war12
    case wah12 => ((intro w hSw; (try dsimp only at hSw); go_simp); try with_reducible rfl)
    try simp only [Act.put, List.setIfInBounds_toArray, List.set_cons_zero, List.set_cons_succ]
    refine wpAnyH_take (i := 13) (oi := { dst := some 27, op := Op.load 3 (Operand.tmp 26), type := 3, pos := "ref.go:148", after := #[{ on := 12, ground := Ground.data }], guard := none }) (v := ?wav13) rfl (by kernel_rfl) (by kernel_rfl) (by kernel_rfl) (fun _ _ _ h => h) (Or.inl ⟨by rfl, ?wah13⟩) (by assumption) ?war13
    case wah13 => ((intro w hSw; (try dsimp only at hSw); go_simp); try with_reducible rfl)
    try simp only [Act.put, List.setIfInBounds_toArray, List.set_cons_zero, List.set_cons_succ]
    refine wpAnyH_take (i := 14) (oi := { dst := some 28, op := Op.indexAddr 71 (Operand.tmp 20) (Operand.tmp 27), type := 0, pos := "ref.go:148", after := #[{ on := 6, ground := Ground.data }, { on := 13, ground := Ground.data }], guard := none }) (v := ?wav14) rfl (by kernel_rfl) (by kernel_rfl) (by kernel_rfl) (fun _ _ _ h => h) (Or.inl ⟨by rfl, ?wah14⟩) (by assumption) ?war14
    case wah14 => ((intro w hSw; (try dsimp only at hSw); go_simp); try with_reducible rfl)
    try simp only [Act.put, List.setIfInBounds_toArray, List.set_cons_zero, List.set_cons_succ]
    refine wpAnyH_take (i := 15) (oi := { dst := some 29, op := Op.load 70 (Operand.tmp 28), type := 70, pos := "ref.go:148", after := #[{ on := 14, ground := Ground.data }], guard := none }) (v := ?wav15) rfl (by kernel_rfl) (by kernel_rfl) (by kernel_rfl) (fun _ _ _ h => h) (Or.inl ⟨by rfl, ?wah15⟩) (by assumption) ?war15
    case wah15 => ((intro w hSw; (try dsimp only at hSw); go_simp); try with_reducible rfl)
    try simp only [Act.put, List.setIfInBounds_toArray, List.set_cons_zero, List.set_cons_succ]
    refine wpAnyH_ready (rs := [16]) (by kernel_rfl) (by simp) ?_
    refine AllReadyH.cons (o := { dst := some 4, op := Op.alloc 70, type := 0, pos := "ref.go:148", after := #[], guard := none }) rfl (fun K hK => ?_) AllReadyH.nil
    go_simp; refine hK.out _ _ (by first | exact (HW2.out.alloc HW2.out.size _).drew | exact HW2.out.alloc HW2.out.size _) (fun hHeld => ?_)
    clear hK K
    try simp only [Act.put, List.setIfInBounds_toArray, List.set_cons_zero, List.set_cons_succ]
    refine wpAnyH_ready (rs := [17]) (by kernel_rfl) (by simp) ?_
    refine AllReadyH.cons (o := { dst := none, op := Op.store 70 (Operand.tmp 4) (Operand.tmp 29), type := 0, pos := "ref.go:148", after := #[{ on := 16, ground := Ground.data }, { on := 15, ground := Ground.data }, { on := 0, ground := Ground.phase }, { on := 1, ground := Ground.phase }, { on := 2, ground := Ground.phase }, { on := 3, ground := Ground.phase }, { on := 4, ground := Ground.phase }, { on := 5, ground := Ground.phase }, { on := 6, ground := Ground.phase }, { on := 7, ground := Ground.phase }, { on := 8, ground := Ground.phase }, { on := 9, ground := Ground.phase }, { on := 10, ground := Ground.phase }, { on := 11, ground := Ground.phase }, { on := 12, ground := Ground.phase }, { on := 13, ground := Ground.phase }, { on := 14, ground := Ground.phase }, { on := 15, ground := Ground.phase }, { on := 16, ground := Ground.phase }], guard := none }) rfl (fun K hK => ?_) AllReadyH.nil
    go_simp; refine hK.out _ _ (by exact (HW2.out.alloc HW2.out.size _).drew) (fun hHeld => ?_)
    clear hK K
    try simp only [Act.put, List.setIfInBounds_toArray, List.set_cons_zero, List.set_cons_succ]
    refine wpAnyH_done (by kernel_rfl) ?_ _
    go_wp2_with fail
    go_meet
    exact ⟨_, rfl, HW2.out.size, heap_alloc_new w2 _, (HW2.out.alloc HW2.out.size _).drew⟩
  case rest =>
    obtain ⟨b2, rfl, hbz, hbb, hbc⟩ := hcut
    have HBC := hid hbc
    have HT := hid (HH.out.below hbc)
    have HBB := hid hbb
    obtain ⟨c0, c1, c2, c3, c4, c5, c6, c7⟩ := HT.out.cells
    obtain ⟨f0, f1, f2⟩ := HT.out.handAt hk
    rw [hx] at f0
    have y0 := cell_of_row _ _ 0 _ _ _ hbb
    have y1 := cell_of_row _ _ 1 _ _ _ hbb
    have y2 := cell_of_row _ _ 2 _ _ _ hbb
    simp only [List.getElem?_toArray, List.getElem?_cons_zero, List.getElem?_cons_succ] at y0 y1 y2
    have ff0 : wc.frozen? ⟨B.bh, k * 3, none⟩ = false := frozen_of_row _ _ _ _ _ HT.out.hands
    have ff1 : wc.frozen? ⟨B.bh, k * 3 + 1, none⟩ = false := frozen_of_row _ _ _ _ _ HT.out.hands
    have ff2 : wc.frozen? ⟨B.bh, k * 3 + 2, none⟩ = false := frozen_of_row _ _ _ _ _ HT.out.hands
    have fr7 : wc.frozen? ⟨r, 7, none⟩ = false := frozen_of_row _ _ _ _ _ HT.out.head
    have hrh : r ≠ B.bh := tag_ne HT.out.tagR HT.out.tagH (by decide)
    have hrl2 : r ≠ B.bl := tag_ne HT.out.tagR HT.out.tagL (by decide)
    have hhl : B.bh ≠ B.bl := tag_ne HT.out.tagH HT.out.tagL (by decide)
    have hb2h : b2 ≠ B.bh := by omega
    have hb2l : b2 ≠ B.bl := by omega
    have hb2r : b2 ≠ r := by omega
    have hkl : k < S.hands.length := by rw [HT.out.hnl]; exact hk
    have HBW := hid (And.intro (But.of_below (X := B.fp r) hbc) (hbc.mono HBS.out))
    clear g3 g4 gd0 gd1 ge0 ge1 ge2 hbc hbb
    have hbsz : base ≤ wc.heap.size := by have := HBC.out.size; have := HBS.out; omega
    have hb2l : b2 < wc.heap.size := (Array.getElem?_eq_some_iff.1 HBB.out).1
    obtain ⟨pr, cr, hvr, hrow⟩ := own_shape HT.out.rows
    rw [hvr] at c2
    have HP7 : Hid (wc.ownsRow base 55 3 (.slice pr S.rows.length cr) S.rows.length (S.rows.flatMap Rw.cells)) := by have := HT.out.rows; rw [hvr] at this; exact this
    have HVR := hid hvr
    have HK8 : Hid (∀ (o : Obj) (w8 : World), (wc.alloc o).drew.grownBy w8 (Value.slice pr S.rows.length cr).ownBlock → w8.heap[r]? = some (headR K S B S.steps) ∧ w8.heap[b2]? = some (.cells #[.int .i64 ak.kind, .string ak.key, .int .i64 ak.value] 70 (0, 0)) ∧ w8.heap[B.bh]? = some (handsO S.hands)) := fun o w8 hg => by
      have hg2 : (wc.alloc o).grownBy w8 B.vr.ownBlock := by rw [HVR.out]; exact grown_undrew hg
      have tg : ∀ b, B.vr.ownBlock = some b → tagAt wc b = some (55 + 1) := fun b hb => own_tag HT.out.rows hb
      obtain ⟨e0, -, -, e3, -⟩ := HT.out.grown hg2 (fun b hb => ⟨own_ge HT.out.rows b hb, tag_ne (tg b hb) HT.out.tagR (by decide), tag_ne (tg b hb) HT.out.tagL (by decide), tag_ne (tg b hb) HT.out.tagN (by decide), tag_ne (tg b hb) HT.out.tagH (by decide)⟩)
      refine ⟨e0, ?_, e3⟩
      refine ((hg2.block b2 (by simp; omega) (fun e => ?_)).trans (Below.heap_alloc wc o b2 hb2l)).trans HBB.out
      exact tag_ne (tg b2 e.symm) (show tagAt wc b2 = some (70 + 1) by unfold tagAt; rw [HBB.out]; rfl) (by decide) rfl
    have HFIN : Hid (∀ (o : Obj) (w8 : World) (v' : Value), w8.ownsRow base 55 3 v' (S.rows.length + 1) (S.rows.flatMap Rw.cells ++ Rw.cells ⟨ak.key, ak.value, false⟩) → (wc.alloc o).drew.grownBy w8 (Value.slice pr S.rows.length cr).ownBlock → Stayed (wc.alloc o).drew (.slice pr S.rows.length cr) v' →
        RStep W base r K B S2 (.returned (.tuple #[])) (((w8.setCell ⟨r, 2, none⟩ v').setCell ⟨B.bh, k * 3, none⟩ (.int .i64 3)).setCell ⟨r, 7, none⟩ (.int .i64 ((S.steps : Nat) + 1)))) := fun o w8 v' ho8 hg hs => by
      have hg2 : (wc.alloc o).grownBy w8 B.vr.ownBlock := by rw [HVR.out]; exact grown_undrew hg
      have s1 := HT.out.addRow ho8 hg2
      have s2 := s1.setHand k hkl 0 (by omega) (.int .i64 3) ⟨3, (S.hand k).found, (S.hand k).call⟩ rfl
      have s3 := s2.setSteps (S.steps + 1)
      have e : ((S.steps + 1 : Nat) : Int) = (S.steps : Int) + 1 := by omega
      rw [e] at s3
      have hc2 : S2 = { S with rows := S.rows ++ [⟨ak.key, ak.value, false⟩], hands := S.hands.set k ⟨3, (S.hand k).found, (S.hand k).call⟩, steps := S.steps + 1 } := HS2.out
      have hbg : ∀ g, (Value.slice pr S.rows.length cr).ownBlock = some g → B.fp r g := fun g hg' => .inr (.inr (.inr (.inr (.inl (by rw [HVR.out]; exact hg')))))
      have hb8 : But (B.fp r) W w8 := HBW.out.1.trans ⟨fun b hl hn => (hg2.block b (by simp; omega) (fun e => hn (hbg b (by rw [← HVR.out]; exact e.symm)))).trans (Below.heap_alloc wc o b hl), by have := hg2.size; simp at this; omega⟩
      have hl8 : Below base W w8 := (HBW.out.2.alloc hbsz o).drew.grown hg (by show base ≤ (wc.alloc o).heap.size; simp; omega) (fun x e => own_ge HP7.out x e)
      refine ⟨rfl, { B with vr := v' }, by rw [hc2]; exact s3, fun b hb => ?_, ((hb8.setCell _ _ (.inl rfl)).setCell _ _ (.inr (.inr (.inr (.inl rfl))))).setCell _ _ (.inl rfl), ((hl8.setCell HT.out.ge.1 _).setCell HT.out.ge.2.2.2 _).setCell HT.out.ge.1 _⟩
      rcases hb with hb | hb | hb | hb | hb | hb
      · exact .inl (.inl hb)
      · exact .inl (.inr (.inl hb))
      · exact .inl (.inr (.inr (.inl hb)))
      · exact .inl (.inr (.inr (.inr (.inl hb))))
      · rcases hs b hb with e | e
        · exact .inl (hbg b e)
        · refine .inr ?_
          have e : (wc.alloc o).heap.size ≤ b := e
          have := HBC.out.size
          simp at e
          omega
      · exact .inl (.inr (.inr (.inr (.inr (.inr hb)))))
    have HSL : Hid (∀ o : Obj, (wc.alloc o).drew.heap[b2]? = some (.cells #[.int .i64 ak.kind, .string ak.key, .int .i64 ak.value] 70 (0, 0))) := fun o => (Below.heap_alloc wc o b2 hb2l).trans HBB.out
    have hHeld0 : wc.drew.heap[b2]? = some (.cells #[.int .i64 ak.kind, .string ak.key, .int .i64 ak.value] 70 (0, 0)) := HBB.out
    have c2L : ∀ o : Obj, (wc.alloc o).cell? ⟨r, 2, none⟩ = some (.slice pr S.rows.length cr) := fun o => (World.cell?_of_block (a := ⟨r, 2, none⟩) (Below.heap_alloc wc o r (HT.out.lt.1))).trans c2
    have c2M : ∀ o : Obj, (wc.alloc o).drew.cell? ⟨r, 2, none⟩ = some (.slice pr S.rows.length cr) := c2L
    have HH0 := hid hHeld0
    have a1 : ∀ w' : World, w'.heap[b2]? = some (.cells #[.int .i64 ak.kind, .string ak.key, .int .i64 ak.value] 70 (0, 0)) → w'.cell? ⟨b2, 1, none⟩ = some (.string ak.key) := fun w' h => cell_of_row w' _ 1 _ _ _ h
    have a2 : ∀ w' : World, w'.heap[b2]? = some (.cells #[.int .i64 ak.kind, .string ak.key, .int .i64 ak.value] 70 (0, 0)) → w'.cell? ⟨b2, 2, none⟩ = some (.int .i64 ak.value) := fun w' h => cell_of_row w' _ 2 _ _ _ h
    clear hrow hvr HS2
    generalize hrn : S.rows.length = rn at *
    go_upto_region 16 with fail
    refine wp_region_held_drew (S := fun w' : World => w'.heap[b2]? = some (.cells #[.int .i64 ak.kind, .string ak.key, .int .i64 ak.value] 70 (0, 0))) (by kernel_rfl) hHeld0 (fun hHeld => ?_)
    refine wpAnyH_take (i := 0) (oi := { dst := some 129, op := Op.move (Operand.tmp 0), type := 34, pos := "ref.go:163", after := #[], guard := none }) (v := ?s2v0) rfl (by kernel_rfl) (by kernel_rfl) (by kernel_rfl) (fun _ _ _ h => h) (Or.inl ⟨by rfl, ?s2h0⟩) (by assumption) ?s2r0
    case s2h0 => ((intro w hSw; (try dsimp only at hSw); go_simp); try with_reducible rfl)
    try simp only [Act.put, List.setIfInBounds_toArray, List.set_cons_zero, List.set_cons_succ]
    refine wpAnyH_take (i := 1) (oi := { dst := some 130, op := Op.move (Operand.tmp 0), type := 34, pos := "ref.go:163", after := #[], guard := none }) (v := ?s2v1) rfl (by kernel_rfl) (by kernel_rfl) (by kernel_rfl) (fun _ _ _ h => h) (Or.inl ⟨by rfl, ?s2h1⟩) (by assumption) ?s2r1
    case s2h1 => ((intro w hSw; (try dsimp only at hSw); go_simp); try with_reducible rfl)
    try simp only [Act.put, List.setIfInBounds_toArray, List.set_cons_zero, List.set_cons_succ]
    refine wpAnyH_take (i := 2) (oi := { dst := some 131, op := Op.nilCheck (Operand.tmp 130), type := 0, pos := "ref.go:163", after := #[{ on := 1, ground := Ground.data }], guard := none }) (v := ?s2v2) rfl (by kernel_rfl) (by kernel_rfl) (by kernel_rfl) (fun _ _ _ h => h) (Or.inl ⟨by rfl, ?s2h2⟩) (by assumption) ?s2r2
    case s2h2 => ((intro w hSw; (try dsimp only at hSw); go_simp); try with_reducible rfl)
    try simp only [Act.put, List.setIfInBounds_toArray, List.set_cons_zero, List.set_cons_succ]
    refine wpAnyH_take (i := 3) (oi := { dst := some 132, op := Op.fieldAddr 84 (Operand.tmp 131) 2, type := 0, pos := "ref.go:163", after := #[{ on := 2, ground := Ground.data }], guard := none }) (v := ?s2v3) rfl (by kernel_rfl) (by kernel_rfl) (by kernel_rfl) (fun _ _ _ h => h) (Or.inl ⟨by rfl, ?s2h3⟩) (by assumption) ?s2r3
    case s2h3 => ((intro w hSw; (try dsimp only at hSw); go_simp); try with_reducible rfl)
    try simp only [Act.put, List.setIfInBounds_toArray, List.set_cons_zero, List.set_cons_succ]
    refine wpAnyH_take (i := 5) (oi := { dst := some 134, op := Op.fieldAddr 70 (Operand.tmp 4) 1, type := 0, pos := "ref.go:163", after := #[], guard := none }) (v := ?s2v5) rfl (by kernel_rfl) (by kernel_rfl) (by kernel_rfl) (fun _ _ _ h => h) (Or.inl ⟨by rfl, ?s2h5⟩) (by assumption) ?s2r5
    case s2h5 => ((intro w hSw; (try dsimp only at hSw); go_simp); try with_reducible rfl)
    try simp only [Act.put, List.setIfInBounds_toArray, List.set_cons_zero, List.set_cons_succ]
    refine wpAnyH_take (i := 6) (oi := { dst := some 135, op := Op.load 9 (Operand.tmp 134), type := 9, pos := "ref.go:163", after := #[{ on := 5, ground := Ground.data }], guard := none }) (v := ?s2v6) rfl (by kernel_rfl) (by kernel_rfl) (by kernel_rfl) (fun _ _ _ h => h) (Or.inl ⟨by rfl, ?s2h6⟩) (by assumption) ?s2r6
    case s2h6 => ((intro w hSw; (try dsimp only at hSw); go_simp); try with_reducible rfl)
    try simp only [Act.put, List.setIfInBounds_toArray, List.set_cons_zero, List.set_cons_succ]
    refine wpAnyH_take (i := 7) (oi := { dst := some 136, op := Op.fieldAddr 70 (Operand.tmp 4) 2, type := 0, pos := "ref.go:163", after := #[], guard := none }) (v := ?s2v7) rfl (by kernel_rfl) (by kernel_rfl) (by kernel_rfl) (fun _ _ _ h => h) (Or.inl ⟨by rfl, ?s2h7⟩) (by assumption) ?s2r7
    case s2h7 => ((intro w hSw; (try dsimp only at hSw); go_simp); try with_reducible rfl)
    try simp only [Act.put, List.setIfInBounds_toArray, List.set_cons_zero, List.set_cons_succ]
    refine wpAnyH_take (i := 8) (oi := { dst := some 137, op := Op.load 2 (Operand.tmp 136), type := 2, pos := "ref.go:163", after := #[{ on := 7, ground := Ground.data }], guard := none }) (v := ?s2v8) rfl (by kernel_rfl) (by kernel_rfl) (by kernel_rfl) (fun _ _ _ h => h) (Or.inl ⟨by rfl, ?s2h8⟩) (by assumption) ?s2r8
    case s2h8 => ((intro w hSw; (try dsimp only at hSw); go_simp); try with_reducible rfl)
    try simp only [Act.put, List.setIfInBounds_toArray, List.set_cons_zero, List.set_cons_succ]
    refine wpAnyH_take (i := 9) (oi := { dst := some 138, op := Op.build 55 #[(0, Operand.tmp 135), (1, Operand.tmp 137)], type := 55, pos := "ref.go:163", after := #[{ on := 6, ground := Ground.data }, { on := 8, ground := Ground.data }], guard := none }) (v := ?s2v9) rfl (by kernel_rfl) (by kernel_rfl) (by kernel_rfl) (fun _ _ _ h => h) (Or.inl ⟨by rfl, ?s2h9⟩) (by assumption) ?s2r9
    case s2h9 => ((intro w hSw; (try dsimp only at hSw); go_simp); try with_reducible rfl)
    try simp only [Act.put, List.setIfInBounds_toArray, List.set_cons_zero, List.set_cons_succ]
    refine wpAnyH_ready (rs := [4, 10]) (by kernel_rfl) (by simp) ?_
    refine AllReadyH.cons (o := { dst := some 133, op := Op.load 48 (Operand.tmp 132), type := 48, pos := "ref.go:163", after := #[{ on := 3, ground := Ground.data }], guard := none }) rfl (fun K hK => ?_) ?_
    · go_simp; refine hK.out _ _ (by first | exact HH0.out | exact HSL.out _) (fun hHeld => ?_)
      clear hK K
      try simp only [Act.put, List.setIfInBounds_toArray, List.set_cons_zero, List.set_cons_succ]
      refine wpAnyH_ready (rs := [10]) (by kernel_rfl) (by simp) ?_
      refine AllReadyH.cons (o := { dst := some 139, op := Op.buildSlice 48 1 #[(0, Operand.tmp 138)], type := 48, pos := "ref.go:163", after := #[{ on := 9, ground := Ground.data }], guard := none }) rfl (fun K hK => ?_) AllReadyH.nil
      go_simp; refine hK.out _ _ (HSL.out _) (fun hHeld => ?_)
      clear hK K
      try simp only [Act.put, List.setIfInBounds_toArray, List.set_cons_zero, List.set_cons_succ]
      refine wpAnyH_ready (rs := [11]) (by kernel_rfl) (by simp) ?_
      refine AllReadyH.cons (o := { dst := some 140, op := Op.call { callee := Callee.builtin Builtin.append, args := #[Operand.tmp 133, Operand.tmp 139], argTypes := #[48, 48] }, type := 48, pos := "ref.go:163", after := #[{ on := 4, ground := Ground.data }, { on := 10, ground := Ground.data }], guard := none }) rfl (fun K hK => ?_) AllReadyH.nil
      (refine step_app ERow rfl (.tmp 133) (.tmp 139) rfl base (.slice pr rn cr) rn (S.rows.flatMap Rw.cells) rfl (HP7.out.alloc _) _ 1 1 (Rw.cells ⟨ak.key, ak.value, false⟩) rfl rfl (row_newAt _ _ _ _ rfl) (rw_ones _) (by unfold maxLen; omega) (by omega) (by simp; omega) ?_); intro vp' w8 ho8 hg8 hs8; obtain ⟨p8, c8, rfl, -⟩ := own_shape ho8; have HO8 := hid ho8; have HG8 := hid hg8; have HT8 := hid hs8; clear ho8 hg8 hs8; obtain ⟨hh8, ha8, hd8⟩ := HK8.out _ _ HG8.out; have HH8 := hid hh8; have HA8 := hid ha8; have z2 := cell_of_row _ _ 2 _ _ _ hh8; have zf2 := frozen_of_row _ _ 2 _ _ hh8; have z7 : w8.cell? ⟨r, 7, none⟩ = some (.int .i64 (S.steps : Nat)) := cell_of_row _ _ 7 _ _ _ hh8; have zf7 := frozen_of_row _ _ 7 _ _ hh8; have zfh : w8.frozen? ⟨B.bh, k * 3, none⟩ = false := frozen_of_row _ _ _ _ _ hd8; have zh := (cell_of_row _ _ (k * 3) _ _ _ hd8); have zh2 : w8.cell? ⟨B.bh, k * 3, none⟩ = some (.int .i64 (2 : Nat)) := (zh.trans (cell_of_row _ _ (k * 3) _ _ _ HT.out.hands).symm).trans f0; clear hh8 ha8 hd8 zh; refine hK.out _ _ HA8.out (fun hHeld => ?_)
      clear hK K
      try simp only [Act.put, List.setIfInBounds_toArray, List.set_cons_zero, List.set_cons_succ]
      refine wpAnyH_take (i := 12) (oi := { dst := some 141, op := Op.nilCheck (Operand.tmp 129), type := 0, pos := "ref.go:163", after := #[{ on := 0, ground := Ground.data }, { on := 0, ground := Ground.phase }, { on := 1, ground := Ground.phase }, { on := 2, ground := Ground.phase }, { on := 3, ground := Ground.phase }, { on := 4, ground := Ground.phase }, { on := 5, ground := Ground.phase }, { on := 6, ground := Ground.phase }, { on := 7, ground := Ground.phase }, { on := 8, ground := Ground.phase }, { on := 9, ground := Ground.phase }, { on := 10, ground := Ground.phase }, { on := 11, ground := Ground.phase }], guard := none }) (v := ?s2av12) rfl (by kernel_rfl) (by kernel_rfl) (by kernel_rfl) (fun _ _ _ h => h) (Or.inl ⟨by rfl, ?s2ah12⟩) (by assumption) ?s2ar12
      case s2ah12 => ((intro w hSw; (try dsimp only at hSw); go_simp); try with_reducible rfl)
      try simp only [Act.put, List.setIfInBounds_toArray, List.set_cons_zero, List.set_cons_succ]
      refine wpAnyH_take (i := 13) (oi := { dst := some 142, op := Op.fieldAddr 84 (Operand.tmp 141) 2, type := 0, pos := "ref.go:163", after := #[{ on := 12, ground := Ground.data }, { on := 0, ground := Ground.phase }, { on := 1, ground := Ground.phase }, { on := 2, ground := Ground.phase }, { on := 3, ground := Ground.phase }, { on := 4, ground := Ground.phase }, { on := 5, ground := Ground.phase }, { on := 6, ground := Ground.phase }, { on := 7, ground := Ground.phase }, { on := 8, ground := Ground.phase }, { on := 9, ground := Ground.phase }, { on := 10, ground := Ground.phase }, { on := 11, ground := Ground.phase }], guard := none }) (v := ?s2av13) rfl (by kernel_rfl) (by kernel_rfl) (by kernel_rfl) (fun _ _ _ h => h) (Or.inl ⟨by rfl, ?s2ah13⟩) (by assumption) ?s2ar13
      case s2ah13 => ((intro w hSw; (try dsimp only at hSw); go_simp); try with_reducible rfl)
      try simp only [Act.put, List.setIfInBounds_toArray, List.set_cons_zero, List.set_cons_succ]
      refine wpAnyH_ready (rs := [14]) (by kernel_rfl) (by simp) ?_
      refine AllReadyH.cons (o := { dst := none, op := Op.store 48 (Operand.tmp 142) (Operand.tmp 140), type := 0, pos := "ref.go:163", after := #[{ on := 13, ground := Ground.data }, { on := 11, ground := Ground.data }, { on := 11, ground := Ground.chain }, { on := 0, ground := Ground.phase }, { on := 1, ground := Ground.phase }, { on := 2, ground := Ground.phase }, { on := 3, ground := Ground.phase }, { on := 4, ground := Ground.phase }, { on := 5, ground := Ground.phase }, { on := 6, ground := Ground.phase }, { on := 7, ground := Ground.phase }, { on := 8, ground := Ground.phase }, { on := 9, ground := Ground.phase }, { on := 10, ground := Ground.phase }, { on := 11, ground := Ground.phase }], guard := none }) rfl (fun K hK => ?_) AllReadyH.nil
      go_simp; refine hK.out _ _ ((heap_setCell_other _ _ _ _ hb2r).trans HA8.out) (fun hHeld => ?_)
      clear hK K
      try simp only [Act.put, List.setIfInBounds_toArray, List.set_cons_zero, List.set_cons_succ]
      refine wpAnyH_done (by kernel_rfl) ?_ _
      go_wp2_with fail
      refine bodyPost_end (v := .tuple #[]) (by simp [results, Try.results21, go_sem]) rfl ?_
      exact HFIN.out _ _ _ HO8.out HG8.out HT8.out
    refine AllReadyH.cons (o := { dst := some 139, op := Op.buildSlice 48 1 #[(0, Operand.tmp 138)], type := 48, pos := "ref.go:163", after := #[{ on := 9, ground := Ground.data }], guard := none }) rfl (fun K hK => ?_) AllReadyH.nil
    go_simp; refine hK.out _ _ (HSL.out _) (fun hHeld => ?_)
    clear hK K
    try simp only [Act.put, List.setIfInBounds_toArray, List.set_cons_zero, List.set_cons_succ]
    refine wpAnyH_ready (rs := [4]) (by kernel_rfl) (by simp) ?_
    refine AllReadyH.cons (o := { dst := some 133, op := Op.load 48 (Operand.tmp 132), type := 48, pos := "ref.go:163", after := #[{ on := 3, ground := Ground.data }], guard := none }) rfl (fun K hK => ?_) AllReadyH.nil
    go_simp; refine hK.out _ _ (by first | exact HH0.out | exact HSL.out _) (fun hHeld => ?_)
    clear hK K
    try simp only [Act.put, List.setIfInBounds_toArray, List.set_cons_zero, List.set_cons_succ]
    refine wpAnyH_ready (rs := [11]) (by kernel_rfl) (by simp) ?_
    refine AllReadyH.cons (o := { dst := some 140, op := Op.call { callee := Callee.builtin Builtin.append, args := #[Operand.tmp 133, Operand.tmp 139], argTypes := #[48, 48] }, type := 48, pos := "ref.go:163", after := #[{ on := 4, ground := Ground.data }, { on := 10, ground := Ground.data }], guard := none }) rfl (fun K hK => ?_) AllReadyH.nil
    (refine step_app ERow rfl (.tmp 133) (.tmp 139) rfl base (.slice pr rn cr) rn (S.rows.flatMap Rw.cells) rfl (HP7.out.alloc _) _ 1 1 (Rw.cells ⟨ak.key, ak.value, false⟩) rfl rfl (row_newAt _ _ _ _ rfl) (rw_ones _) (by unfold maxLen; omega) (by omega) (by simp; omega) ?_); intro vp' w8 ho8 hg8 hs8; obtain ⟨p8, c8, rfl, -⟩ := own_shape ho8; have HO8 := hid ho8; have HG8 := hid hg8; have HT8 := hid hs8; clear ho8 hg8 hs8; obtain ⟨hh8, ha8, hd8⟩ := HK8.out _ _ HG8.out; have HH8 := hid hh8; have HA8 := hid ha8; have z2 := cell_of_row _ _ 2 _ _ _ hh8; have zf2 := frozen_of_row _ _ 2 _ _ hh8; have z7 : w8.cell? ⟨r, 7, none⟩ = some (.int .i64 (S.steps : Nat)) := cell_of_row _ _ 7 _ _ _ hh8; have zf7 := frozen_of_row _ _ 7 _ _ hh8; have zfh : w8.frozen? ⟨B.bh, k * 3, none⟩ = false := frozen_of_row _ _ _ _ _ hd8; have zh := (cell_of_row _ _ (k * 3) _ _ _ hd8); have zh2 : w8.cell? ⟨B.bh, k * 3, none⟩ = some (.int .i64 (2 : Nat)) := (zh.trans (cell_of_row _ _ (k * 3) _ _ _ HT.out.hands).symm).trans f0; clear hh8 ha8 hd8 zh; refine hK.out _ _ HA8.out (fun hHeld => ?_)
    clear hK K
    try simp only [Act.put, List.setIfInBounds_toArray, List.set_cons_zero, List.set_cons_succ]
    refine wpAnyH_take (i := 12) (oi := { dst := some 141, op := Op.nilCheck (Operand.tmp 129), type := 0, pos := "ref.go:163", after := #[{ on := 0, ground := Ground.data }, { on := 0, ground := Ground.phase }, { on := 1, ground := Ground.phase }, { on := 2, ground := Ground.phase }, { on := 3, ground := Ground.phase }, { on := 4, ground := Ground.phase }, { on := 5, ground := Ground.phase }, { on := 6, ground := Ground.phase }, { on := 7, ground := Ground.phase }, { on := 8, ground := Ground.phase }, { on := 9, ground := Ground.phase }, { on := 10, ground := Ground.phase }, { on := 11, ground := Ground.phase }], guard := none }) (v := ?s2bv12) rfl (by kernel_rfl) (by kernel_rfl) (by kernel_rfl) (fun _ _ _ h => h) (Or.inl ⟨by rfl, ?s2bh12⟩) (by assumption) ?s2br12
    case s2bh12 => ((intro w hSw; (try dsimp only at hSw); go_simp); try with_reducible rfl)
    try simp only [Act.put, List.setIfInBounds_toArray, List.set_cons_zero, List.set_cons_succ]
    refine wpAnyH_take (i := 13) (oi := { dst := some 142, op := Op.fieldAddr 84 (Operand.tmp 141) 2, type := 0, pos := "ref.go:163", after := #[{ on := 12, ground := Ground.data }, { on := 0, ground := Ground.phase }, { on := 1, ground := Ground.phase }, { on := 2, ground := Ground.phase }, { on := 3, ground := Ground.phase }, { on := 4, ground := Ground.phase }, { on := 5, ground := Ground.phase }, { on := 6, ground := Ground.phase }, { on := 7, ground := Ground.phase }, { on := 8, ground := Ground.phase }, { on := 9, ground := Ground.phase }, { on := 10, ground := Ground.phase }, { on := 11, ground := Ground.phase }], guard := none }) (v := ?s2bv13) rfl (by kernel_rfl) (by kernel_rfl) (by kernel_rfl) (fun _ _ _ h => h) (Or.inl ⟨by rfl, ?s2bh13⟩) (by assumption) ?s2br13
    case s2bh13 => ((intro w hSw; (try dsimp only at hSw); go_simp); try with_reducible rfl)
    try simp only [Act.put, List.setIfInBounds_toArray, List.set_cons_zero, List.set_cons_succ]
    refine wpAnyH_ready (rs := [14]) (by kernel_rfl) (by simp) ?_
    refine AllReadyH.cons (o := { dst := none, op := Op.store 48 (Operand.tmp 142) (Operand.tmp 140), type := 0, pos := "ref.go:163", after := #[{ on := 13, ground := Ground.data }, { on := 11, ground := Ground.data }, { on := 11, ground := Ground.chain }, { on := 0, ground := Ground.phase }, { on := 1, ground := Ground.phase }, { on := 2, ground := Ground.phase }, { on := 3, ground := Ground.phase }, { on := 4, ground := Ground.phase }, { on := 5, ground := Ground.phase }, { on := 6, ground := Ground.phase }, { on := 7, ground := Ground.phase }, { on := 8, ground := Ground.phase }, { on := 9, ground := Ground.phase }, { on := 10, ground := Ground.phase }, { on := 11, ground := Ground.phase }], guard := none }) rfl (fun K hK => ?_) AllReadyH.nil
    go_simp; refine hK.out _ _ ((heap_setCell_other _ _ _ _ hb2r).trans HA8.out) (fun hHeld => ?_)
    clear hK K
    try simp only [Act.put, List.setIfInBounds_toArray, List.set_cons_zero, List.set_cons_succ]
    refine wpAnyH_done (by kernel_rfl) ?_ _
    go_wp2_with fail
    refine bodyPost_end (v := .tuple #[]) (by simp [results, Try.results21, go_sem]) rfl ?_
    exact HFIN.out _ _ _ HO8.out HG8.out HT8.out
end Go.Proofs.Ytabkmdhkfbcldaa
