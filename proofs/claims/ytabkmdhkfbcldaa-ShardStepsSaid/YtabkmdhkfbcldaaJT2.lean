/-
  The document's table: Step, state 4 (printed by genrstep.py).
  The document's table: Step, state 5 (printed by genrstep.py).
-/
import Derived.Test.YtabkmdhkfbcldaaJT1
namespace Go.Proofs.Ytabkmdhkfbcldaa
open Go.RowKit
variable {W W' : World} {base r : Nat} {K : Wk} {S : Sh} {B : RB}
theorem unl_steps (K : Wk) (S : Sh) (k : Nat) : (S.unl K k).steps = S.steps := by
  unfold Sh.unl
  split <;> rfl

set_option maxRecDepth 20000 in
set_option maxHeartbeats 4000000 in
theorem rstep4 (h : RIs W base r K S B) (hbs : base ≤ W.heap.size) (HK : WkOk K) (ho : ShOk K S) (hrl : S.rows.length ≤ 1000000) (k : Nat) (hk : k < K.work.length) (hcan : S.canN K k = true) (hx : (S.hand k).at_ = 4) (hst : S.steps ≤ 1000000) (hsz : ∀ k, (K.own k).length ≤ 1000000) :
    Calls Try.prog 21 #[.pointer (some ⟨r, 0, none⟩), .int .i64 (k : Nat)] W (RStep W base r K B (S.stepN K k)) := by
  have hn := ho.nx hk (can_facts hcan).1
  have HD := hid (rdone h hsz (k : Int))
  have hdf : S.doneI K (k : Int) = false := by
    unfold Sh.doneI
    rw [Int.toNat_natCast, (can_facts hcan).1]
    simp; omega
  have HW := hid (fun (w1 : World) (hb : Below W.heap.size W w1) => rwaits_not (h.below hb) HK hsz hrl k hk hdf hn)
  have hwf : S.waitsI K (k : Int) = false := by unfold Sh.waitsI; rw [Int.toNat_natCast, (can_facts hcan).2, hdf]; rfl
  rw [hwf] at HW
  rw [hdf] at HD
  obtain ⟨c0, c1, c2, c3, c4, c5, c6, c7⟩ := h.cells
  obtain ⟨b, o, qb, qo, ca, hwv, d0, hbl, hqb, e0, e1, e2⟩ := h.askAt hk hn
  have d1 := h.nextAt hk
  have hol := hsz k
  rw [hwv] at c3
  have hkI : (k : Int) < K.work.length := by omega
  have hnI : ((S.next.getD k 0 : Nat) : Int) < (K.own k).length := by omega
  obtain ⟨l0, l1, l2, l3⟩ := h.lt
  have gg : ∀ {a : Addr} {v : Value}, a.block < W.heap.size → W.cell? a = some v → ∀ w', Below W.heap.size W w' → w'.cell? a = some v := fun ha hv w' hb => (hb.cell ha).trans hv
  have g3 := gg (a := ⟨r, 3, none⟩) l0 c3
  have g4 := gg (a := ⟨r, 4, none⟩) l0 c4
  have gd0 := gg (a := ⟨b, o + k, none⟩) hbl d0
  have gd1 := gg (a := ⟨B.bn, k, none⟩) l2 d1
  have ge0 := gg (a := ⟨qb, qo + S.next.getD k 0 * 3, none⟩) hqb e0
  have ge1 := gg (a := ⟨qb, qo + S.next.getD k 0 * 3 + 1, none⟩) hqb e1
  have ge2 := gg (a := ⟨qb, qo + S.next.getD k 0 * 3 + 2, none⟩) hqb e2
  have HH := hid h
  have HNX := hid hn
  have HBS := hid hbs
  generalize S.next.getD k 0 = nx at c0 c1 c2 c3 c4 c5 c6 c7 d0 d1 e0 e1 e2 gd0 gd1 ge0 ge1 ge2 hn hnI
  generalize (K.own k).length = ol at c0 c1 c2 c3 c4 c5 c6 c7 d0 d1 e0 e1 e2 gd0 gd1 ge0 ge1 ge2 hn hnI hol
  generalize hak : S.ask K k = ak at e0 e1 e2 ge0 ge1 ge2
  obtain ⟨S2, hS2⟩ : ∃ S2, S2 = S.stepN K k := ⟨_, rfl⟩
  rw [← hS2]
  rw [step_is hcan] at hS2
  unfold Sh.body at hS2
  dsimp only at hS2
  simp only [hx, hak] at hS2
  have HS2 := hid hS2
  have HAK := hid hak
  clear c0 c1 c2 c3 c4 c5 c6 c7 d0 d1 e0 e1 e2 gg h hdf hwf hbs hS2 hak
  go_enter Try.func21, Try.ntmps21
  go_upto_region 1 with (first
    | (go_at_call 24; (with_reducible refine HD.out.mono ?_); rintro e w1 ⟨rfl, hq1⟩; have HW1 : Hid (Below W.heap.size W w1) := (by obtain ⟨q, rfl⟩ := hq1; exact below_drewN (Below.refl _ _) q); clear hq1)
    | (go_at_call 25; (with_reducible refine (HW.out _ HW1.out).mono ?_); rintro e w2 ⟨rfl, hb2⟩; have HW2 : Hid (Below W.heap.size W w2) := below_more hb2 HW1.out (Nat.le_refl _); clear hb2))
  go_cut [4] (fun v wx => AkV W ak v wx)
  case first =>
    refine wp_region_held_drew (S := fun w' => Below W.heap.size W w') (by kernel_rfl) HW2.out.drew (fun hHeld => ?_)
    refine wpAnyH_take (i := 0) (oi := { dst := some 14, op := Op.move (Operand.tmp 0), type := 34, pos := "ref.go:148", after := #[], guard := none }) (v := ?wav0) rfl (by kernel_rfl) (by kernel_rfl) (by kernel_rfl) (fun _ _ _ h => h) (Or.inl ⟨by rfl, ?wah0⟩) (by assumption) ?war0
    case wah0 => ((intro w hSw; (try dsimp only at hSw); go_simp); try with_reducible rfl)
    try simp only [Act.put, List.setIfInBounds_toArray, List.set_cons_zero, List.set_cons_succ]
    refine wpAnyH_take (i := 1) (oi := { dst := some 15, op := Op.nilCheck (Operand.tmp 14), type := 0, pos := "ref.go:148", after := #[{ on := 0, ground := Ground.data }], guard := none }) (v := ?wav1) rfl (by kernel_rfl) (by kernel_rfl) (by kernel_rfl) (fun _ _ _ h => h) (Or.inl ⟨by rfl, ?wah1⟩) (by assumption) ?war1
    case wah1 => ((intro w hSw; (try dsimp only at hSw); go_simp); try with_reducible rfl)
    try simp only [Act.put, List.setIfInBounds_toArray, List.set_cons_zero, List.set_cons_succ]
    refine wpAnyH_take (i := 2) (oi := { dst := some 16, op := Op.fieldAddr 84 (Operand.tmp 15) 3, type := 0, pos := "ref.go:148", after := #[{ on := 1, ground := Ground.data }], guard := none }) (v := ?wav2) rfl (by kernel_rfl) (by kernel_rfl) (by kernel_rfl) (fun _ _ _ h => h) (Or.inl ⟨by rfl, ?wah2⟩) (by assumption) ?war2
    case wah2 => ((intro w hSw; (try dsimp only at hSw); go_simp); try with_reducible rfl)
    try simp only [Act.put, List.setIfInBounds_toArray, List.set_cons_zero, List.set_cons_succ]
    refine wpAnyH_take (i := 3) (oi := { dst := some 17, op := Op.load 27 (Operand.tmp 16), type := 27, pos := "ref.go:148", after := #[{ on := 2, ground := Ground.data }], guard := none }) (v := ?wav3) rfl (by kernel_rfl) (by kernel_rfl) (by kernel_rfl) (fun _ _ _ h => h) (Or.inl ⟨by rfl, ?wah3⟩) (by assumption) ?war3
    case wah3 => ((intro w hSw; (try dsimp only at hSw); go_simp); try with_reducible rfl)
    try simp only [Act.put, List.setIfInBounds_toArray, List.set_cons_zero, List.set_cons_succ]
    refine wpAnyH_take (i := 4) (oi := { dst := some 18, op := Op.move (Operand.tmp 1), type := 3, pos := "ref.go:148", after := #[], guard := none }) (v := ?wav4) rfl (by kernel_rfl) (by kernel_rfl) (by kernel_rfl) (fun _ _ _ h => h) (Or.inl ⟨by rfl, ?wah4⟩) (by assumption) ?war4
    case wah4 => ((intro w hSw; (try dsimp only at hSw); go_simp); try with_reducible rfl)
    try simp only [Act.put, List.setIfInBounds_toArray, List.set_cons_zero, List.set_cons_succ]
    refine wpAnyH_take (i := 5) (oi := { dst := some 19, op := Op.indexAddr 27 (Operand.tmp 17) (Operand.tmp 18), type := 0, pos := "ref.go:148", after := #[{ on := 3, ground := Ground.data }, { on := 4, ground := Ground.data }], guard := none }) (v := ?wav5) rfl (by kernel_rfl) (by kernel_rfl) (by kernel_rfl) (fun _ _ _ h => h) (Or.inl ⟨by rfl, ?wah5⟩) (by assumption) ?war5
    case wah5 => ((intro w hSw; (try dsimp only at hSw); go_simp); try with_reducible rfl)
    try simp only [Act.put, List.setIfInBounds_toArray, List.set_cons_zero, List.set_cons_succ]
    refine wpAnyH_take (i := 6) (oi := { dst := some 20, op := Op.load 71 (Operand.tmp 19), type := 71, pos := "ref.go:148", after := #[{ on := 5, ground := Ground.data }], guard := none }) (v := ?wav6) rfl (by kernel_rfl) (by kernel_rfl) (by kernel_rfl) (fun _ _ _ h => h) (Or.inl ⟨by rfl, ?wah6⟩) (by assumption) ?war6
    case wah6 => ((intro w hSw; (try dsimp only at hSw); go_simp); try with_reducible rfl)
    try simp only [Act.put, List.setIfInBounds_toArray, List.set_cons_zero, List.set_cons_succ]
    refine wpAnyH_take (i := 7) (oi := { dst := some 21, op := Op.move (Operand.tmp 0), type := 34, pos := "ref.go:148", after := #[], guard := none }) (v := ?wav7) rfl (by kernel_rfl) (by kernel_rfl) (by kernel_rfl) (fun _ _ _ h => h) (Or.inl ⟨by rfl, ?wah7⟩) (by assumption) ?war7
    case wah7 => ((intro w hSw; (try dsimp only at hSw); go_simp); try with_reducible rfl)
    try simp only [Act.put, List.setIfInBounds_toArray, List.set_cons_zero, List.set_cons_succ]
    refine wpAnyH_take (i := 8) (oi := { dst := some 22, op := Op.nilCheck (Operand.tmp 21), type := 0, pos := "ref.go:148", after := #[{ on := 7, ground := Ground.data }], guard := none }) (v := ?wav8) rfl (by kernel_rfl) (by kernel_rfl) (by kernel_rfl) (fun _ _ _ h => h) (Or.inl ⟨by rfl, ?wah8⟩) (by assumption) ?war8
    case wah8 => ((intro w hSw; (try dsimp only at hSw); go_simp); try with_reducible rfl)
    try simp only [Act.put, List.setIfInBounds_toArray, List.set_cons_zero, List.set_cons_succ]
    refine wpAnyH_take (i := 9) (oi := { dst := some 23, op := Op.fieldAddr 84 (Operand.tmp 22) 4, type := 0, pos := "ref.go:148", after := #[{ on := 8, ground := Ground.data }], guard := none }) (v := ?wav9) rfl (by kernel_rfl) (by kernel_rfl) (by kernel_rfl) (fun _ _ _ h => h) (Or.inl ⟨by rfl, ?wah9⟩) (by assumption) ?war9
    case wah9 => ((intro w hSw; (try dsimp only at hSw); go_simp); try with_reducible rfl)
    try simp only [Act.put, List.setIfInBounds_toArray, List.set_cons_zero, List.set_cons_succ]
    refine wpAnyH_take (i := 10) (oi := { dst := some 24, op := Op.load 62 (Operand.tmp 23), type := 62, pos := "ref.go:148", after := #[{ on := 9, ground := Ground.data }], guard := none }) (v := ?wav10) rfl (by kernel_rfl) (by kernel_rfl) (by kernel_rfl) (fun _ _ _ h => h) (Or.inl ⟨by rfl, ?wah10⟩) (by assumption) ?war10
    case wah10 => ((intro w hSw; (try dsimp only at hSw); go_simp); try with_reducible rfl)
    try simp only [Act.put, List.setIfInBounds_toArray, List.set_cons_zero, List.set_cons_succ]
    refine wpAnyH_take (i := 11) (oi := { dst := some 25, op := Op.move (Operand.tmp 1), type := 3, pos := "ref.go:148", after := #[], guard := none }) (v := ?wav11) rfl (by kernel_rfl) (by kernel_rfl) (by kernel_rfl) (fun _ _ _ h => h) (Or.inl ⟨by rfl, ?wah11⟩) (by assumption) ?war11
    case wah11 => ((intro w hSw; (try dsimp only at hSw); go_simp); try with_reducible rfl)
    try simp only [Act.put, List.setIfInBounds_toArray, List.set_cons_zero, List.set_cons_succ]
    refine wpAnyH_take (i := 12) (oi := { dst := some 26, op := Op.indexAddr 62 (Operand.tmp 24) (Operand.tmp 25), type := 0, pos := "ref.go:148", after := #[{ on := 10, ground := Ground.data }, { on := 11, ground := Ground.data }], guard := none }) (v := ?wav12) rfl (by kernel_rfl) (by kernel_rfl) (by kernel_rfl) (fun _ _ _ h => h) (Or.inl ⟨by rfl, ?wah12⟩) (by assumption) ?war12
    case wah12 => ((intro w hSw; (try dsimp only at hSw); go_simp); try with_reducible rfl)
    try simp only [Act.put, List.setIfInBounds_toArray, List.set_cons_zero, List.set_cons_succ]
    refine wpAnyH_take (i := 13) (oi := { dst := some 27, op := Op.load 3 (Operand.tmp 26), type := 3, pos := "ref.go:148", after := #[{ on := 12, ground := Ground.data }], guard := none }) (v := ?wav13) rfl (by kernel_rfl) (by kernel_rfl) (by kernel_rfl) (fun _ _ _ h => h) (Or.inl ⟨by rfl, ?wah13⟩) (by assumption) ?war13
    case wah13 => ((intro w hSw; (try dsimp only at hSw); go_simp); try with_reducible rfl)
    try simp only [Act.put, List.setIfInBounds_toArray, List.set_cons_zero, List.set_cons_succ]
    refine wpAnyH_take (i := 14) (oi := { dst := some 28, op := Op.indexAddr 71 (Operand.tmp 20) (Operand.tmp 27), type := 0, pos := "ref.go:148", after := #[{ on := 6, ground := Ground.data }, { on := 13, ground := Ground.data }], guard := none }) (v := ?wav14) rfl (by kernel_rfl) (by kernel_rfl) (by kernel_rfl) (fun _ _ _ h => h) (Or.inl ⟨by rfl, ?wah14⟩) (by assumption) ?war14
    case wah14 => ((intro w hSw; (try dsimp only at hSw); go_simp); try with_reducible rfl)
    try simp only [Act.put, List.setIfInBounds_toArray, List.set_cons_zero, List.set_cons_succ]
    refine wpAnyH_take (i := 15) (oi := { dst := some 29, op := Op.load 70 (Operand.tmp 28), type := 70, pos := "ref.go:148", after := #[{ on := 14, ground := Ground.data }], guard := none }) (v := ?wav15) rfl (by kernel_rfl) (by kernel_rfl) (by kernel_rfl) (fun _ _ _ h => h) (Or.inl ⟨by rfl, ?wah15⟩) (by assumption) ?war15
    case wah15 => ((intro w hSw; (try dsimp only at hSw); go_simp); try with_reducible rfl)
    try simp only [Act.put, List.setIfInBounds_toArray, List.set_cons_zero, List.set_cons_succ]
    refine wpAnyH_ready (rs := [16]) (by kernel_rfl) (by simp) ?_
    refine AllReadyH.cons (o := { dst := some 4, op := Op.alloc 70, type := 0, pos := "ref.go:148", after := #[], guard := none }) rfl (fun K hK => ?_) AllReadyH.nil
    go_simp; refine hK.out _ _ (by first | exact (HW2.out.alloc HW2.out.size _).drew | exact HW2.out.alloc HW2.out.size _) (fun hHeld => ?_)
    clear hK K
    try simp only [Act.put, List.setIfInBounds_toArray, List.set_cons_zero, List.set_cons_succ]
    refine wpAnyH_ready (rs := [17]) (by kernel_rfl) (by simp) ?_
    refine AllReadyH.cons (o := { dst := none, op := Op.store 70 (Operand.tmp 4) (Operand.tmp 29), type := 0, pos := "ref.go:148", after := #[{ on := 16, ground := Ground.data }, { on := 15, ground := Ground.data }, { on := 0, ground := Ground.phase }, { on := 1, ground := Ground.phase }, { on := 2, ground := Ground.phase }, { on := 3, ground := Ground.phase }, { on := 4, ground := Ground.phase }, { on := 5, ground := Ground.phase }, { on := 6, ground := Ground.phase }, { on := 7, ground := Ground.phase }, { on := 8, ground := Ground.phase }, { on := 9, ground := Ground.phase }, { on := 10, ground := Ground.phase }, { on := 11, ground := Ground.phase }, { on := 12, ground := Ground.phase }, { on := 13, ground := Ground.phase }, { on := 14, ground := Ground.phase }, { on := 15, ground := Ground.phase }, { on := 16, ground := Ground.phase }], guard := none }) rfl (fun K hK => ?_) AllReadyH.nil
    go_simp; refine hK.out _ _ (by exact (HW2.out.alloc HW2.out.size _).drew) (fun hHeld => ?_)
    clear hK K
    try simp only [Act.put, List.setIfInBounds_toArray, List.set_cons_zero, List.set_cons_succ]
    refine wpAnyH_done (by kernel_rfl) ?_ _
    go_wp2_with fail
    go_meet
    exact ⟨_, rfl, HW2.out.size, heap_alloc_new w2 _, (HW2.out.alloc HW2.out.size _).drew⟩
  case rest =>
    obtain ⟨b2, rfl, hbz, hbb, hbc⟩ := hcut
    have HBC := hid hbc
    have HT := hid (HH.out.below hbc)
    have HBB := hid hbb
    obtain ⟨c0, c1, c2, c3, c4, c5, c6, c7⟩ := HT.out.cells
    obtain ⟨f0, f1, f2⟩ := HT.out.handAt hk
    rw [hx] at f0
    have y0 := cell_of_row _ _ 0 _ _ _ hbb
    have y1 := cell_of_row _ _ 1 _ _ _ hbb
    have y2 := cell_of_row _ _ 2 _ _ _ hbb
    simp only [List.getElem?_toArray, List.getElem?_cons_zero, List.getElem?_cons_succ] at y0 y1 y2
    have ff0 : wc.frozen? ⟨B.bh, k * 3, none⟩ = false := frozen_of_row _ _ _ _ _ HT.out.hands
    have ff1 : wc.frozen? ⟨B.bh, k * 3 + 1, none⟩ = false := frozen_of_row _ _ _ _ _ HT.out.hands
    have ff2 : wc.frozen? ⟨B.bh, k * 3 + 2, none⟩ = false := frozen_of_row _ _ _ _ _ HT.out.hands
    have fr7 : wc.frozen? ⟨r, 7, none⟩ = false := frozen_of_row _ _ _ _ _ HT.out.head
    have hrh : r ≠ B.bh := tag_ne HT.out.tagR HT.out.tagH (by decide)
    have hrl2 : r ≠ B.bl := tag_ne HT.out.tagR HT.out.tagL (by decide)
    have hhl : B.bh ≠ B.bl := tag_ne HT.out.tagH HT.out.tagL (by decide)
    have hb2h : b2 ≠ B.bh := by omega
    have hb2l : b2 ≠ B.bl := by omega
    have hb2r : b2 ≠ r := by omega
    have hkl : k < S.hands.length := by rw [HT.out.hnl]; exact hk
    have HBW := hid (And.intro (But.of_below (X := B.fp r) hbc) (hbc.mono HBS.out))
    clear g3 g4 gd0 gd1 ge0 ge1 ge2 hbc hbb
    have H4 := ho.each k hk
    have hcl := (H4.inh (by omega)).2.1
    have HU := hid (runlock HT.out (by have := HBC.out.size; have := HBS.out; omega) HK k hk HNX.out hcl hst (hsz k) hrl (H4.four hx).1)
    rw [HAK.out] at HU
    have hc2 : S2 = { S.unl K k with steps := S.steps + 1 } := by
      rw [HS2.out]
      unfold Sh.unl
      rw [HAK.out]
      rfl
    have HC2 := hid hc2
    clear hc2 H4 HS2
    go_wp2_with (go_at_call 44; (with_reducible refine HU.out.mono ?_); rintro e w4 ⟨rfl, hr4, hb4, hl4⟩; have z7 := hr4.cells.2.2.2.2.2.2.2; rw [unl_steps] at z7; have zf7 : w4.frozen? ⟨r, 7, none⟩ = false := frozen_of_row _ _ _ _ _ hr4.head; have HR4 := hid hr4; have HB4 := hid hb4; have HL4 := hid hl4; clear hr4 hb4 hl4)
    refine bodyPost_end (v := .tuple #[]) (by simp [results, Try.results21, go_sem]) rfl ?_
    have s3 := HR4.out.setSteps (S.steps + 1)
    have e : ((S.steps + 1 : Nat) : Int) = (S.steps : Int) + 1 := by omega
    rw [e] at s3
    exact ⟨rfl, B, by rw [HC2.out]; exact s3, fun b hb => .inl hb, (HBW.out.1.trans HB4.out).setCell _ _ (.inl rfl), (HBW.out.2.trans HL4.out).setCell HT.out.ge.1 _⟩
end Go.Proofs.Ytabkmdhkfbcldaa
namespace Go.Proofs.Ytabkmdhkfbcldaa
open Go.RowKit
variable {W W' : World} {base r : Nat} {K : Wk} {S : Sh} {B : RB}

set_option maxRecDepth 20000 in
set_option maxHeartbeats 4000000 in
theorem rstep5 (h : RIs W base r K S B) (hbs : base ≤ W.heap.size) (HK : WkOk K) (ho : ShOk K S) (hrl : S.rows.length ≤ 1000000) (k : Nat) (hk : k < K.work.length) (hcan : S.canN K k = true) (hx : (S.hand k).at_ = 5) (hst : S.steps ≤ 1000000) (hsz : ∀ k, (K.own k).length ≤ 1000000) :
    Calls Try.prog 21 #[.pointer (some ⟨r, 0, none⟩), .int .i64 (k : Nat)] W (RStep W base r K B (S.stepN K k)) := by
  have hn := ho.nx hk (can_facts hcan).1
  have HD := hid (rdone h hsz (k : Int))
  have hdf : S.doneI K (k : Int) = false := by
    unfold Sh.doneI
    rw [Int.toNat_natCast, (can_facts hcan).1]
    simp; omega
  have HW := hid (fun (w1 : World) (hb : Below W.heap.size W w1) => rwaits_not (h.below hb) HK hsz hrl k hk hdf hn)
  have hwf : S.waitsI K (k : Int) = false := by unfold Sh.waitsI; rw [Int.toNat_natCast, (can_facts hcan).2, hdf]; rfl
  rw [hwf] at HW
  rw [hdf] at HD
  obtain ⟨c0, c1, c2, c3, c4, c5, c6, c7⟩ := h.cells
  obtain ⟨b, o, qb, qo, ca, hwv, d0, hbl, hqb, e0, e1, e2⟩ := h.askAt hk hn
  have d1 := h.nextAt hk
  have hol := hsz k
  rw [hwv] at c3
  have hkI : (k : Int) < K.work.length := by omega
  have hnI : ((S.next.getD k 0 : Nat) : Int) < (K.own k).length := by omega
  obtain ⟨l0, l1, l2, l3⟩ := h.lt
  have gg : ∀ {a : Addr} {v : Value}, a.block < W.heap.size → W.cell? a = some v → ∀ w', Below W.heap.size W w' → w'.cell? a = some v := fun ha hv w' hb => (hb.cell ha).trans hv
  have g3 := gg (a := ⟨r, 3, none⟩) l0 c3
  have g4 := gg (a := ⟨r, 4, none⟩) l0 c4
  have gd0 := gg (a := ⟨b, o + k, none⟩) hbl d0
  have gd1 := gg (a := ⟨B.bn, k, none⟩) l2 d1
  have ge0 := gg (a := ⟨qb, qo + S.next.getD k 0 * 3, none⟩) hqb e0
  have ge1 := gg (a := ⟨qb, qo + S.next.getD k 0 * 3 + 1, none⟩) hqb e1
  have ge2 := gg (a := ⟨qb, qo + S.next.getD k 0 * 3 + 2, none⟩) hqb e2
  have HH := hid h
  have HNX := hid hn
  have HBS := hid hbs
  generalize S.next.getD k 0 = nx at c0 c1 c2 c3 c4 c5 c6 c7 d0 d1 e0 e1 e2 gd0 gd1 ge0 ge1 ge2 hn hnI
  generalize (K.own k).length = ol at c0 c1 c2 c3 c4 c5 c6 c7 d0 d1 e0 e1 e2 gd0 gd1 ge0 ge1 ge2 hn hnI hol
  generalize hak : S.ask K k = ak at e0 e1 e2 ge0 ge1 ge2
  obtain ⟨S2, hS2⟩ : ∃ S2, S2 = S.stepN K k := ⟨_, rfl⟩
  rw [← hS2]
  rw [step_is hcan] at hS2
  unfold Sh.body at hS2
  dsimp only at hS2
  simp only [hx, hak] at hS2
  have HS2 := hid hS2
  have HAK := hid hak
  clear c0 c1 c2 c3 c4 c5 c6 c7 d0 d1 e0 e1 e2 gg h hdf hwf hbs hS2 hak
  go_enter Try.func21, Try.ntmps21
  go_upto_region 1 with (first
    | (go_at_call 24; (with_reducible refine HD.out.mono ?_); rintro e w1 ⟨rfl, hq1⟩; have HW1 : Hid (Below W.heap.size W w1) := (by obtain ⟨q, rfl⟩ := hq1; exact below_drewN (Below.refl _ _) q); clear hq1)
    | (go_at_call 25; (with_reducible refine (HW.out _ HW1.out).mono ?_); rintro e w2 ⟨rfl, hb2⟩; have HW2 : Hid (Below W.heap.size W w2) := below_more hb2 HW1.out (Nat.le_refl _); clear hb2))
  go_cut [4] (fun v wx => AkV W ak v wx)
  case first =>
    refine wp_region_held_drew (S := fun w' => Below W.heap.size W w') (by kernel_rfl) HW2.out.drew (fun hHeld => ?_)
    refine wpAnyH_take (i := 0) (oi := { dst := some 14, op := Op.move (Operand.tmp 0), type := 34, pos := "ref.go:148", after := #[], guard := none }) (v := ?wav0) rfl (by kernel_rfl) (by kernel_rfl) (by kernel_rfl) (fun _ _ _ h => h) (Or.inl ⟨by rfl, ?wah0⟩) (by assumption) ?war0
    case wah0 => ((intro w hSw; (try dsimp only at hSw); go_simp); try with_reducible rfl)
    try simp only [Act.put, List.setIfInBounds_toArray, List.set_cons_zero, List.set_cons_succ]
    refine wpAnyH_take (i := 1) (oi := { dst := some 15, op := Op.nilCheck (Operand.tmp 14), type := 0, pos := "ref.go:148", after := #[{ on := 0, ground := Ground.data }], guard := none }) (v := ?wav1) rfl (by kernel_rfl) (by kernel_rfl) (by kernel_rfl) (fun _ _ _ h => h) (Or.inl ⟨by rfl, ?wah1⟩) (by assumption) ?war1
    case wah1 => ((intro w hSw; (try dsimp only at hSw); go_simp); try with_reducible rfl)
    try simp only [Act.put, List.setIfInBounds_toArray, List.set_cons_zero, List.set_cons_succ]
    refine wpAnyH_take (i := 2) (oi := { dst := some 16, op := Op.fieldAddr 84 (Operand.tmp 15) 3, type := 0, pos := "ref.go:148", after := #[{ on := 1, ground := Ground.data }], guard := none }) (v := ?wav2) rfl (by kernel_rfl) (by kernel_rfl) (by kernel_rfl) (fun _ _ _ h => h) (Or.inl ⟨by rfl, ?wah2⟩) (by assumption) ?war2
    case wah2 => ((intro w hSw; (try dsimp only at hSw); go_simp); try with_reducible rfl)
    try simp only [Act.put, List.setIfInBounds_toArray, List.set_cons_zero, List.set_cons_succ]
    refine wpAnyH_take (i := 3) (oi := { dst := some 17, op := Op.load 27 (Operand.tmp 16), type := 27, pos := "ref.go:148", after := #[{ on := 2, ground := Ground.data }], guard := none }) (v := ?wav3) rfl (by kernel_rfl) (by kernel_rfl) (by kernel_rfl) (fun _ _ _ h => h) (Or.inl ⟨by rfl, ?wah3⟩) (by assumption) ?war3
    case wah3 => ((intro w hSw; (try dsimp only at hSw); go_simp); try with_reducible rfl)
    try simp only [Act.put, List.setIfInBounds_toArray, List.set_cons_zero, List.set_cons_succ]
    refine wpAnyH_take (i := 4) (oi := { dst := some 18, op := Op.move (Operand.tmp 1), type := 3, pos := "ref.go:148", after := #[], guard := none }) (v := ?wav4) rfl (by kernel_rfl) (by kernel_rfl) (by kernel_rfl) (fun _ _ _ h => h) (Or.inl ⟨by rfl, ?wah4⟩) (by assumption) ?war4
    case wah4 => ((intro w hSw; (try dsimp only at hSw); go_simp); try with_reducible rfl)
    try simp only [Act.put, List.setIfInBounds_toArray, List.set_cons_zero, List.set_cons_succ]
    refine wpAnyH_take (i := 5) (oi := { dst := some 19, op := Op.indexAddr 27 (Operand.tmp 17) (Operand.tmp 18), type := 0, pos := "ref.go:148", after := #[{ on := 3, ground := Ground.data }, { on := 4, ground := Ground.data }], guard := none }) (v := ?wav5) rfl (by kernel_rfl) (by kernel_rfl) (by kernel_rfl) (fun _ _ _ h => h) (Or.inl ⟨by rfl, ?wah5⟩) (by assumption) ?war5
    case wah5 => ((intro w hSw; (try dsimp only at hSw); go_simp); try with_reducible rfl)
    try simp only [Act.put, List.setIfInBounds_toArray, List.set_cons_zero, List.set_cons_succ]
    refine wpAnyH_take (i := 6) (oi := { dst := some 20, op := Op.load 71 (Operand.tmp 19), type := 71, pos := "ref.go:148", after := #[{ on := 5, ground := Ground.data }], guard := none }) (v := ?wav6) rfl (by kernel_rfl) (by kernel_rfl) (by kernel_rfl) (fun _ _ _ h => h) (Or.inl ⟨by rfl, ?wah6⟩) (by assumption) ?war6
    case wah6 => ((intro w hSw; (try dsimp only at hSw); go_simp); try with_reducible rfl)
    try simp only [Act.put, List.setIfInBounds_toArray, List.set_cons_zero, List.set_cons_succ]
    refine wpAnyH_take (i := 7) (oi := { dst := some 21, op := Op.move (Operand.tmp 0), type := 34, pos := "ref.go:148", after := #[], guard := none }) (v := ?wav7) rfl (by kernel_rfl) (by kernel_rfl) (by kernel_rfl) (fun _ _ _ h => h) (Or.inl ⟨by rfl, ?wah7⟩) (by assumption) ?war7
    case wah7 => ((intro w hSw; (try dsimp only at hSw); go_simp); try with_reducible rfl)
    try simp only [Act.put, List.setIfInBounds_toArray, List.set_cons_zero, List.set_cons_succ]
    refine wpAnyH_take (i := 8) (oi := { dst := some 22, op := Op.nilCheck (Operand.tmp 21), type := 0, pos := "ref.go:148", after := #[{ on := 7, ground := Ground.data }], guard := none }) (v := ?wav8) rfl (by kernel_rfl) (by kernel_rfl) (by kernel_rfl) (fun _ _ _ h => h) (Or.inl ⟨by rfl, ?wah8⟩) (by assumption) ?war8
    case wah8 => ((intro w hSw; (try dsimp only at hSw); go_simp); try with_reducible rfl)
    try simp only [Act.put, List.setIfInBounds_toArray, List.set_cons_zero, List.set_cons_succ]
    refine wpAnyH_take (i := 9) (oi := { dst := some 23, op := Op.fieldAddr 84 (Operand.tmp 22) 4, type := 0, pos := "ref.go:148", after := #[{ on := 8, ground := Ground.data }], guard := none }) (v := ?wav9) rfl (by kernel_rfl) (by kernel_rfl) (by kernel_rfl) (fun _ _ _ h => h) (Or.inl ⟨by rfl, ?wah9⟩) (by assumption) ?war9
    case wah9 => ((intro w hSw; (try dsimp only at hSw); go_simp); try with_reducible rfl)
    try simp only [Act.put, List.setIfInBounds_toArray, List.set_cons_zero, List.set_cons_succ]
    refine wpAnyH_take (i := 10) (oi := { dst := some 24, op := Op.load 62 (Operand.tmp 23), type := 62, pos := "ref.go:148", after := #[{ on := 9, ground := Ground.data }], guard := none }) (v := ?wav10) rfl (by kernel_rfl) (by kernel_rfl) (by kernel_rfl) (fun _ _ _ h => h) (Or.inl ⟨by rfl, ?wah10⟩) (by assumption) ?war10
    case wah10 => ((intro w hSw; (try dsimp only at hSw); go_simp); try with_reducible rfl)
    try simp only [Act.put, List.setIfInBounds_toArray, List.set_cons_zero, List.set_cons_succ]
    refine wpAnyH_take (i := 11) (oi := { dst := some 25, op := Op.move (Operand.tmp 1), type := 3, pos := "ref.go:148", after := #[], guard := none }) (v := ?wav11) rfl (by kernel_rfl) (by kernel_rfl) (by kernel_rfl) (fun _ _ _ h => h) (Or.inl ⟨by rfl, ?wah11⟩) (by assumption) ?war11
    case wah11 => ((intro w hSw; (try dsimp only at hSw); go_simp); try with_reducible rfl)
    try simp only [Act.put, List.setIfInBounds_toArray, List.set_cons_zero, List.set_cons_succ]
    refine wpAnyH_take (i := 12) (oi := { dst := some 26, op := Op.indexAddr 62 (Operand.tmp 24) (Operand.tmp 25), type := 0, pos := "ref.go:148", after := #[{ on := 10, ground := Ground.data }, { on := 11, ground := Ground.data }], guard := none }) (v := ?wav12) rfl (by kernel_rfl) (by kernel_rfl) (by kernel_rfl) (fun _ _ _ h => h) (Or.inl ⟨by rfl, ?wah12⟩) (by assumption) ?war12
    case wah12 => ((intro w hSw; (try dsimp only at hSw); go_simp); try with_reducible rfl)
    try simp only [Act.put, List.setIfInBounds_toArray, List.set_cons_zero, List.set_cons_succ]
    refine wpAnyH_take (i := 13) (oi := { dst := some 27, op := Op.load 3 (Operand.tmp 26), type := 3, pos := "ref.go:148", after := #[{ on := 12, ground := Ground.data }], guard := none }) (v := ?wav13) rfl (by kernel_rfl) (by kernel_rfl) (by kernel_rfl) (fun _ _ _ h => h) (Or.inl ⟨by rfl, ?wah13⟩) (by assumption) ?war13
    case wah13 => ((intro w hSw; (try dsimp only at hSw); go_simp); try with_reducible rfl)
    try simp only [Act.put, List.setIfInBounds_toArray, List.set_cons_zero, List.set_cons_succ]
    refine wpAnyH_take (i := 14) (oi := { dst := some 28, op := Op.indexAddr 71 (Operand.tmp 20) (Operand.tmp 27), type := 0, pos := "ref.go:148", after := #[{ on := 6, ground := Ground.data }, { on := 13, ground := Ground.data }], guard := none }) (v := ?wav14) rfl (by kernel_rfl) (by kernel_rfl) (by kernel_rfl) (fun _ _ _ h => h) (Or.inl ⟨by rfl, ?wah14⟩) (by assumption) ?war14
    case wah14 => ((intro w hSw; (try dsimp only at hSw); go_simp); try with_reducible rfl)
    try simp only [Act.put, List.setIfInBounds_toArray, List.set_cons_zero, List.set_cons_succ]
    refine wpAnyH_take (i := 15) (oi := { dst := some 29, op := Op.load 70 (Operand.tmp 28), type := 70, pos := "ref.go:148", after := #[{ on := 14, ground := Ground.data }], guard := none }) (v := ?wav15) rfl (by kernel_rfl) (by kernel_rfl) (by kernel_rfl) (fun _ _ _ h => h) (Or.inl ⟨by rfl, ?wah15⟩) (by assumption) ?war15
    case wah15 => ((intro w hSw; (try dsimp only at hSw); go_simp); try with_reducible rfl)
    try simp only [Act.put, List.setIfInBounds_toArray, List.set_cons_zero, List.set_cons_succ]
    refine wpAnyH_ready (rs := [16]) (by kernel_rfl) (by simp) ?_
    refine AllReadyH.cons (o := { dst := some 4, op := Op.alloc 70, type := 0, pos := "ref.go:148", after := #[], guard := none }) rfl (fun K hK => ?_) AllReadyH.nil
    go_simp; refine hK.out _ _ (by first | exact (HW2.out.alloc HW2.out.size _).drew | exact HW2.out.alloc HW2.out.size _) (fun hHeld => ?_)
    clear hK K
    try simp only [Act.put, List.setIfInBounds_toArray, List.set_cons_zero, List.set_cons_succ]
    refine wpAnyH_ready (rs := [17]) (by kernel_rfl) (by simp) ?_
    refine AllReadyH.cons (o := { dst := none, op := Op.store 70 (Operand.tmp 4) (Operand.tmp 29), type := 0, pos := "ref.go:148", after := #[{ on := 16, ground := Ground.data }, { on := 15, ground := Ground.data }, { on := 0, ground := Ground.phase }, { on := 1, ground := Ground.phase }, { on := 2, ground := Ground.phase }, { on := 3, ground := Ground.phase }, { on := 4, ground := Ground.phase }, { on := 5, ground := Ground.phase }, { on := 6, ground := Ground.phase }, { on := 7, ground := Ground.phase }, { on := 8, ground := Ground.phase }, { on := 9, ground := Ground.phase }, { on := 10, ground := Ground.phase }, { on := 11, ground := Ground.phase }, { on := 12, ground := Ground.phase }, { on := 13, ground := Ground.phase }, { on := 14, ground := Ground.phase }, { on := 15, ground := Ground.phase }, { on := 16, ground := Ground.phase }], guard := none }) rfl (fun K hK => ?_) AllReadyH.nil
    go_simp; refine hK.out _ _ (by exact (HW2.out.alloc HW2.out.size _).drew) (fun hHeld => ?_)
    clear hK K
    try simp only [Act.put, List.setIfInBounds_toArray, List.set_cons_zero, List.set_cons_succ]
    refine wpAnyH_done (by kernel_rfl) ?_ _
    go_wp2_with fail
    go_meet
    exact ⟨_, rfl, HW2.out.size, heap_alloc_new w2 _, (HW2.out.alloc HW2.out.size _).drew⟩
  case rest =>
    obtain ⟨b2, rfl, hbz, hbb, hbc⟩ := hcut
    have HBC := hid hbc
    have HT := hid (HH.out.below hbc)
    have HBB := hid hbb
    obtain ⟨c0, c1, c2, c3, c4, c5, c6, c7⟩ := HT.out.cells
    obtain ⟨f0, f1, f2⟩ := HT.out.handAt hk
    rw [hx] at f0
    have y0 := cell_of_row _ _ 0 _ _ _ hbb
    have y1 := cell_of_row _ _ 1 _ _ _ hbb
    have y2 := cell_of_row _ _ 2 _ _ _ hbb
    simp only [List.getElem?_toArray, List.getElem?_cons_zero, List.getElem?_cons_succ] at y0 y1 y2
    have ff0 : wc.frozen? ⟨B.bh, k * 3, none⟩ = false := frozen_of_row _ _ _ _ _ HT.out.hands
    have ff1 : wc.frozen? ⟨B.bh, k * 3 + 1, none⟩ = false := frozen_of_row _ _ _ _ _ HT.out.hands
    have ff2 : wc.frozen? ⟨B.bh, k * 3 + 2, none⟩ = false := frozen_of_row _ _ _ _ _ HT.out.hands
    have fr7 : wc.frozen? ⟨r, 7, none⟩ = false := frozen_of_row _ _ _ _ _ HT.out.head
    have hrh : r ≠ B.bh := tag_ne HT.out.tagR HT.out.tagH (by decide)
    have hrl2 : r ≠ B.bl := tag_ne HT.out.tagR HT.out.tagL (by decide)
    have hhl : B.bh ≠ B.bl := tag_ne HT.out.tagH HT.out.tagL (by decide)
    have hb2h : b2 ≠ B.bh := by omega
    have hb2l : b2 ≠ B.bl := by omega
    have hb2r : b2 ≠ r := by omega
    have hkl : k < S.hands.length := by rw [HT.out.hnl]; exact hk
    have HBW := hid (And.intro (But.of_below (X := B.fp r) hbc) (hbc.mono HBS.out))
    clear g3 g4 gd0 gd1 ge0 ge1 ge2 hbc hbb
    have H5 := ho.each k hk
    have hcl := (H5.inh (by omega)).2.1
    have hdr : Below wc.heap.size wc wc.drew := (Below.refl _ _).drew
    have hlk : S.toldN (S.ask K k).key = true := by
      have hw := (can_facts hcan).2
      unfold Sh.waitsN at hw
      rw [(can_facts hcan).1, hx] at hw
      simpa using hw
    rw [HAK.out] at hlk
    have hi : rixN S.rows ak.key < S.rows.length := by
      refine Decidable.byContradiction fun hc => ?_
      rw [(get_rixN S ak.key hc).2] at hlk
      cases hlk
    have HR := hid (rrow (HT.out.below hdr) hrl ak.key)
    have hxi : rixI S.rows ak.key = rixN S.rows ak.key := by unfold rixI; rw [if_pos hi]
    rw [hxi] at HR
    obtain ⟨pr, cr, hvr, hrow⟩ := own_shape HT.out.rows
    rw [hvr] at c2
    obtain ⟨b3, o3, rfl, hbl3, -⟩ := hrow.at (by have := flat_len Rw.cells 3 (fun _ => rfl) S.rows; omega)
    obtain ⟨-, x1, -⟩ := row_fields hrow _ hi
    have hiI : (rixN S.rows ak.key : Int) < S.rows.length := by omega
    have HE := hid (rend (HT.out.below hdr) k hk hcl hst (by have := HNX.out; have := hsz k; omega) (S.rows[rixN S.rows ak.key]).val 0)
    have hc2 : S2 = { S.endN k (S.rows[rixN S.rows ak.key]).val 0 with steps := S.steps + 1 } := by rw [HS2.out, (get_rix S ak.key hi).1]; rfl
    have HC2 := hid hc2
    obtain ⟨ka, hka⟩ : ∃ ka, ka = wc.drew := ⟨_, rfl⟩
    have HS5 : Hid (∀ w5 : World, RIs w5 base r K (S.endN k (S.rows[rixN S.rows ak.key]).val 0) B → But (B.fp r) wc.drew w5 → w5.cell? ⟨r, 2, none⟩ = some (.slice (some ⟨b3, o3, none⟩) S.rows.length cr) ∧ w5.cell? ⟨b2, 1, none⟩ = some (.string ak.key) ∧ w5.cell? ⟨b3, o3 + rixN S.rows ak.key * 3 + 1, none⟩ = some (.int .i64 (S.rows[rixN S.rows ak.key]).val)) := fun w5 h5 hb5 => by
      obtain ⟨-, -, q2, -⟩ := h5.cells
      rw [hvr] at q2
      refine ⟨q2, ?_, ?_⟩
      · have hnf : ¬ B.fp r b2 := fun hf => by have := (HH.out.fp_in hf).2; omega
        have hb2l : b2 < wc.heap.size := (Array.getElem?_eq_some_iff.1 HBB.out).1
        exact (World.cell?_of_block (a := ⟨b2, 1, none⟩) (hb5.keep b2 hb2l hnf)).trans y1
      · obtain ⟨pr2, cr2, hvr2, hrow2⟩ := own_shape h5.rows
        have hvr3 : B.vr = .slice pr2 S.rows.length cr2 := hvr2
        rw [hvr] at hvr3
        injection hvr3 with e1 _ _
        subst e1
        exact (row_fields hrow2 _ hi).2.1
    generalize hvv : (S.rows[rixN S.rows ak.key]).val = v at *
    generalize rixN S.rows ak.key = ri at *
    have hHeld0 : wc.drew.cell? ⟨r, 2, none⟩ = some (.slice (some ⟨b3, o3, none⟩) S.rows.length cr) ∧ wc.drew.cell? ⟨b2, 1, none⟩ = some (.string ak.key) ∧ wc.drew.cell? ⟨b3, o3 + ri * 3 + 1, none⟩ = some (.int .i64 v) := ⟨c2, y1, x1⟩
    have HHE := hid hHeld0
    have a1 : ∀ w' : World, (w'.cell? ⟨r, 2, none⟩ = some (.slice (some ⟨b3, o3, none⟩) S.rows.length cr) ∧ w'.cell? ⟨b2, 1, none⟩ = some (.string ak.key) ∧ w'.cell? ⟨b3, o3 + ri * 3 + 1, none⟩ = some (.int .i64 v)) → w'.cell? ⟨r, 2, none⟩ = some (.slice (some ⟨b3, o3, none⟩) S.rows.length cr) := fun w' h => h.1
    have a2 : ∀ w' : World, (w'.cell? ⟨r, 2, none⟩ = some (.slice (some ⟨b3, o3, none⟩) S.rows.length cr) ∧ w'.cell? ⟨b2, 1, none⟩ = some (.string ak.key) ∧ w'.cell? ⟨b3, o3 + ri * 3 + 1, none⟩ = some (.int .i64 v)) → w'.cell? ⟨b2, 1, none⟩ = some (.string ak.key) := fun w' h => h.2.1
    have a3 : ∀ w' : World, (w'.cell? ⟨r, 2, none⟩ = some (.slice (some ⟨b3, o3, none⟩) S.rows.length cr) ∧ w'.cell? ⟨b2, 1, none⟩ = some (.string ak.key) ∧ w'.cell? ⟨b3, o3 + ri * 3 + 1, none⟩ = some (.int .i64 v)) → w'.cell? ⟨b3, o3 + ri * 3 + 1, none⟩ = some (.int .i64 v) := fun w' h => h.2.2
    clear hrow hvr hxi H5 HS2 hc2 hlk ka hka hvv
    generalize hrn : S.rows.length = rn at *
    go_upto_region 4 with fail
    refine wp_region_held_drew (S := fun w' : World => w'.cell? ⟨r, 2, none⟩ = some (.slice (some ⟨b3, o3, none⟩) rn cr) ∧ w'.cell? ⟨b2, 1, none⟩ = some (.string ak.key) ∧ w'.cell? ⟨b3, o3 + ri * 3 + 1, none⟩ = some (.int .i64 v)) (by kernel_rfl) hHeld0 (fun hHeld => ?_)
    refine wpAnyH_take (i := 0) (oi := { dst := some 40, op := Op.move (Operand.tmp 0), type := 34, pos := "ref.go:171", after := #[], guard := none }) (v := ?s5v0) rfl (by kernel_rfl) (by kernel_rfl) (by kernel_rfl) (fun _ _ _ h => h) (Or.inl ⟨by rfl, ?s5h0⟩) (by assumption) ?s5r0
    case s5h0 => ((intro w hSw; (try dsimp only at hSw); go_simp); try with_reducible rfl)
    try simp only [Act.put, List.setIfInBounds_toArray, List.set_cons_zero, List.set_cons_succ]
    refine wpAnyH_take (i := 1) (oi := { dst := some 41, op := Op.move (Operand.tmp 1), type := 3, pos := "ref.go:171", after := #[], guard := none }) (v := ?s5v1) rfl (by kernel_rfl) (by kernel_rfl) (by kernel_rfl) (fun _ _ _ h => h) (Or.inl ⟨by rfl, ?s5h1⟩) (by assumption) ?s5r1
    case s5h1 => ((intro w hSw; (try dsimp only at hSw); go_simp); try with_reducible rfl)
    try simp only [Act.put, List.setIfInBounds_toArray, List.set_cons_zero, List.set_cons_succ]
    refine wpAnyH_take (i := 2) (oi := { dst := some 42, op := Op.move (Operand.tmp 0), type := 34, pos := "ref.go:171", after := #[], guard := none }) (v := ?s5v2) rfl (by kernel_rfl) (by kernel_rfl) (by kernel_rfl) (fun _ _ _ h => h) (Or.inl ⟨by rfl, ?s5h2⟩) (by assumption) ?s5r2
    case s5h2 => ((intro w hSw; (try dsimp only at hSw); go_simp); try with_reducible rfl)
    try simp only [Act.put, List.setIfInBounds_toArray, List.set_cons_zero, List.set_cons_succ]
    refine wpAnyH_take (i := 3) (oi := { dst := some 43, op := Op.nilCheck (Operand.tmp 42), type := 0, pos := "ref.go:171", after := #[{ on := 2, ground := Ground.data }], guard := none }) (v := ?s5v3) rfl (by kernel_rfl) (by kernel_rfl) (by kernel_rfl) (fun _ _ _ h => h) (Or.inl ⟨by rfl, ?s5h3⟩) (by assumption) ?s5r3
    case s5h3 => ((intro w hSw; (try dsimp only at hSw); go_simp); try with_reducible rfl)
    try simp only [Act.put, List.setIfInBounds_toArray, List.set_cons_zero, List.set_cons_succ]
    refine wpAnyH_take (i := 4) (oi := { dst := some 44, op := Op.fieldAddr 84 (Operand.tmp 43) 2, type := 0, pos := "ref.go:171", after := #[{ on := 3, ground := Ground.data }], guard := none }) (v := ?s5v4) rfl (by kernel_rfl) (by kernel_rfl) (by kernel_rfl) (fun _ _ _ h => h) (Or.inl ⟨by rfl, ?s5h4⟩) (by assumption) ?s5r4
    case s5h4 => ((intro w hSw; (try dsimp only at hSw); go_simp); try with_reducible rfl)
    try simp only [Act.put, List.setIfInBounds_toArray, List.set_cons_zero, List.set_cons_succ]
    refine wpAnyH_take (i := 5) (oi := { dst := some 45, op := Op.load 48 (Operand.tmp 44), type := 48, pos := "ref.go:171", after := #[{ on := 4, ground := Ground.data }], guard := none }) (v := ?s5v5) rfl (by kernel_rfl) (by kernel_rfl) (by kernel_rfl) (fun _ _ _ h => h) (Or.inl ⟨by rfl, ?s5h5⟩) (by assumption) ?s5r5
    case s5h5 => ((intro w hSw; (try dsimp only at hSw); go_simp); try with_reducible rfl)
    try simp only [Act.put, List.setIfInBounds_toArray, List.set_cons_zero, List.set_cons_succ]
    refine wpAnyH_take (i := 6) (oi := { dst := some 46, op := Op.move (Operand.tmp 0), type := 34, pos := "ref.go:171", after := #[], guard := none }) (v := ?s5v6) rfl (by kernel_rfl) (by kernel_rfl) (by kernel_rfl) (fun _ _ _ h => h) (Or.inl ⟨by rfl, ?s5h6⟩) (by assumption) ?s5r6
    case s5h6 => ((intro w hSw; (try dsimp only at hSw); go_simp); try with_reducible rfl)
    try simp only [Act.put, List.setIfInBounds_toArray, List.set_cons_zero, List.set_cons_succ]
    refine wpAnyH_take (i := 7) (oi := { dst := some 47, op := Op.fieldAddr 70 (Operand.tmp 4) 1, type := 0, pos := "ref.go:171", after := #[], guard := none }) (v := ?s5v7) rfl (by kernel_rfl) (by kernel_rfl) (by kernel_rfl) (fun _ _ _ h => h) (Or.inl ⟨by rfl, ?s5h7⟩) (by assumption) ?s5r7
    case s5h7 => ((intro w hSw; (try dsimp only at hSw); go_simp); try with_reducible rfl)
    try simp only [Act.put, List.setIfInBounds_toArray, List.set_cons_zero, List.set_cons_succ]
    refine wpAnyH_take (i := 8) (oi := { dst := some 48, op := Op.load 9 (Operand.tmp 47), type := 9, pos := "ref.go:171", after := #[{ on := 7, ground := Ground.data }], guard := none }) (v := ?s5v8) rfl (by kernel_rfl) (by kernel_rfl) (by kernel_rfl) (fun _ _ _ h => h) (Or.inl ⟨by rfl, ?s5h8⟩) (by assumption) ?s5r8
    case s5h8 => ((intro w hSw; (try dsimp only at hSw); go_simp); try with_reducible rfl)
    try simp only [Act.put, List.setIfInBounds_toArray, List.set_cons_zero, List.set_cons_succ]
    refine wpAnyH_ready (rs := [9]) (by kernel_rfl) (by simp) ?_
    refine AllReadyH.cons (o := { dst := some 49, op := Op.call { callee := Callee.value (Operand.func 43), args := #[Operand.tmp 46, Operand.tmp 48], argTypes := #[34, 9] }, type := 3, pos := "ref.go:171", after := #[{ on := 6, ground := Ground.data }, { on := 8, ground := Ground.data }], guard := none }) rfl (fun K hK => ?_) AllReadyH.nil
    go_simp; go_at_call 43; (with_reducible refine HR.out.mono ?_); rintro e w3 ⟨rfl, hw3⟩; subst hw3; refine hK.out _ _ HHE.out (fun hHeld => ?_)
    clear hK K
    try simp only [Act.put, List.setIfInBounds_toArray, List.set_cons_zero, List.set_cons_succ]
    refine wpAnyH_take (i := 10) (oi := { dst := some 50, op := Op.indexAddr 48 (Operand.tmp 45) (Operand.tmp 49), type := 0, pos := "ref.go:171", after := #[{ on := 5, ground := Ground.data }, { on := 9, ground := Ground.data }], guard := none }) (v := ?s5v10) rfl (by kernel_rfl) (by kernel_rfl) (by kernel_rfl) (fun _ _ _ h => h) (Or.inl ⟨by rfl, ?s5h10⟩) (by assumption) ?s5r10
    case s5h10 => ((intro w hSw; (try dsimp only at hSw); go_simp); try with_reducible rfl)
    try simp only [Act.put, List.setIfInBounds_toArray, List.set_cons_zero, List.set_cons_succ]
    refine wpAnyH_take (i := 11) (oi := { dst := some 51, op := Op.fieldAddr 55 (Operand.tmp 50) 1, type := 0, pos := "ref.go:171", after := #[{ on := 10, ground := Ground.data }], guard := none }) (v := ?s5v11) rfl (by kernel_rfl) (by kernel_rfl) (by kernel_rfl) (fun _ _ _ h => h) (Or.inl ⟨by rfl, ?s5h11⟩) (by assumption) ?s5r11
    case s5h11 => ((intro w hSw; (try dsimp only at hSw); go_simp); try with_reducible rfl)
    try simp only [Act.put, List.setIfInBounds_toArray, List.set_cons_zero, List.set_cons_succ]
    refine wpAnyH_take (i := 12) (oi := { dst := some 52, op := Op.load 2 (Operand.tmp 51), type := 2, pos := "ref.go:171", after := #[{ on := 11, ground := Ground.data }], guard := none }) (v := ?s5v12) rfl (by kernel_rfl) (by kernel_rfl) (by kernel_rfl) (fun _ _ _ h => h) (Or.inl ⟨by rfl, ?s5h12⟩) (by assumption) ?s5r12
    case s5h12 => ((intro w hSw; (try dsimp only at hSw); go_simp); try with_reducible rfl)
    try simp only [Act.put, List.setIfInBounds_toArray, List.set_cons_zero, List.set_cons_succ]
    refine wpAnyH_ready (rs := [13]) (by kernel_rfl) (by simp) ?_
    refine AllReadyH.cons (o := { dst := some 53, op := Op.call { callee := Callee.value (Operand.func 45), args := #[Operand.tmp 40, Operand.tmp 41, Operand.tmp 52, Operand.const (Value.int IntKind.i64 0)], argTypes := #[34, 3, 2, 31] }, type := 0, pos := "ref.go:171", after := #[{ on := 0, ground := Ground.data }, { on := 1, ground := Ground.data }, { on := 12, ground := Ground.data }, { on := 9, ground := Ground.chain }], guard := none }) rfl (fun K hK => ?_) AllReadyH.nil
    go_simp; go_at_call 45; (with_reducible refine HE.out.mono ?_); rintro e w5 ⟨rfl, hr5, hb5, hl5⟩; have HR5 := hid hr5; have HB5 := hid hb5; have HL5 := hid hl5; have z7 := hr5.cells.2.2.2.2.2.2.2; have z7b : w5.cell? ⟨r, 7, none⟩ = some (.int .i64 (S.steps : Nat)) := z7; have zf7 : w5.frozen? ⟨r, 7, none⟩ = false := frozen_of_row _ _ _ _ _ hr5.head; clear z7 hr5 hb5 hl5; refine hK.out _ _ (HS5.out w5 HR5.out HB5.out) (fun hHeld => ?_)
    clear hK K
    try simp only [Act.put, List.setIfInBounds_toArray, List.set_cons_zero, List.set_cons_succ]
    refine wpAnyH_done (by kernel_rfl) ?_ _
    go_wp2_with fail
    refine bodyPost_end (v := .tuple #[]) (by simp [results, Try.results21, go_sem]) rfl ?_
    have s3 := HR5.out.setSteps (S.steps + 1)
    have e : ((S.steps + 1 : Nat) : Int) = (S.steps : Int) + 1 := by omega
    rw [e] at s3
    exact ⟨rfl, B, by rw [HC2.out]; exact s3, fun b hb => .inl hb, (HBW.out.1.drew.trans HB5.out).setCell _ _ (.inl rfl), (HBW.out.2.drew.trans HL5.out).setCell HT.out.ge.1 _⟩
end Go.Proofs.Ytabkmdhkfbcldaa
