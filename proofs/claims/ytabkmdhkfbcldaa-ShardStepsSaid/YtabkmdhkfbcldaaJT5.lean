/-
  The document's table: Step, state 0 (printed by genrstep.py).
-/
import Derived.Test.YtabkmdhkfbcldaaJT4
namespace Go.Proofs.Ytabkmdhkfbcldaa
open Go.RowKit
variable {W W' : World} {base r : Nat} {K : Wk} {S : Sh} {B : RB}
/-- Who has no call in hand found nothing. -/
def Idle (S : Sh) : Prop := ∀ v, (S.hand v).at_ = 0 → (S.hand v).found = false
theorem idle_start (K : Wk) : Idle (Sh.start K) := fun v _ => by
  have : (Sh.start K).hand v = hn0 := getD_rep _ _ _
  rw [this]; rfl
theorem idle_set {S : Sh} (h : Idle S) (S' : Sh) (w : Nat) (x : Hn) (hw : w < S.hands.length) (e : S'.hands = S.hands.set w x) (hx : x.at_ = 0 → x.found = false) : Idle S' := fun v hv => by
  rw [hand_set S' w x hw e] at hv ⊢
  by_cases e2 : v = w
  · rw [if_pos e2] at hv ⊢; exact hx hv
  · rw [if_neg e2] at hv ⊢; exact h v hv
theorem idle_step {K : Wk} {S : Sh} (ho : ShOk K S) (h : Idle S) (w : Nat) (hc : S.canN K w = true) : Idle (S.stepN K w) := by
  have hw := can_lt hc
  have hhl : w < S.hands.length := by rw [ho.hnl]; exact hw
  have h5 : (S.hand w).at_ ≤ 5 := by
    by_cases h0 : (S.hand w).at_ = 0
    · omega
    · exact (((ho.each w hw).inh h0)).2.2
  rw [step_is hc]
  unfold Sh.body
  dsimp only
  rcases (show (S.hand w).at_ = 0 ∨ (S.hand w).at_ = 1 ∨ (S.hand w).at_ = 2 ∨ (S.hand w).at_ = 3 ∨ (S.hand w).at_ = 4 ∨ (S.hand w).at_ = 5 by omega) with e | e | e | e | e | e <;> simp only [e]
  · exact idle_set h _ w ⟨1, false, S.calls.length⟩ hhl rfl (fun h => by simp at h)
  · exact idle_set h _ w ⟨if (S.ask K w).kind = 1 ∧ S.get (S.ask K w).key = none then 2 else 4, (S.get (S.ask K w).key).isSome, (S.hand w).call⟩ hhl rfl (fun h => by dsimp only at h; split at h <;> omega)
  · exact idle_set h _ w ⟨3, (S.hand w).found, (S.hand w).call⟩ hhl rfl (fun h => by simp at h)
  · exact idle_set h _ w ⟨4, (S.hand w).found, (S.hand w).call⟩ hhl rfl (fun h => by simp at h)
  · split
    · exact idle_set h _ w hn0 hhl rfl (fun _ => rfl)
    · exact idle_set h _ w ⟨5, (S.hand w).found, (S.hand w).call⟩ hhl rfl (fun h => by simp at h)
  · exact idle_set h _ w hn0 hhl rfl (fun _ => rfl)
def S0I (W : World) (base r : Nat) (K : Wk) (S1 : Sh) (B : RB) (k : Nat) (ak : Ak) (b2 : Nat) (wx : World) : Prop :=
  ∃ v', RIs wx base r K { S1 with calls := S1.calls ++ [⟨k, ak.kind, ak.key, ak.value, S1.steps, -1, 0, 0⟩] } { B with vc := v' } ∧ wx.heap[b2]? = some (.cells #[.int .i64 ak.kind, .string ak.key, .int .i64 ak.value] 70 (0, 0)) ∧ But (B.fp r) W wx ∧ Below base W wx ∧ ∀ g, v'.ownBlock = some g → B.vc.ownBlock = some g ∨ W.heap.size ≤ g

set_option maxRecDepth 20000 in
set_option maxHeartbeats 4000000 in
theorem rstep0 (h : RIs W base r K S B) (hbs : base ≤ W.heap.size) (HK : WkOk K) (ho : ShOk K S) (hrl : S.rows.length ≤ 1000000) (k : Nat) (hk : k < K.work.length) (hid0 : Idle S) (hcan : S.canN K k = true) (hx : (S.hand k).at_ = 0) (hst : S.steps ≤ 1000000) (hsz : ∀ k, (K.own k).length ≤ 1000000) :
    Calls Try.prog 21 #[.pointer (some ⟨r, 0, none⟩), .int .i64 (k : Nat)] W (RStep W base r K B (S.stepN K k)) := by
  have hn := ho.nx hk (can_facts hcan).1
  have HD := hid (rdone h hsz (k : Int))
  have hdf : S.doneI K (k : Int) = false := by
    unfold Sh.doneI
    rw [Int.toNat_natCast, (can_facts hcan).1]
    simp; omega
  have HW := hid (fun (w1 : World) (hb : Below W.heap.size W w1) => rwaits_not (h.below hb) HK hsz hrl k hk hdf hn)
  have hwf : S.waitsI K (k : Int) = false := by unfold Sh.waitsI; rw [Int.toNat_natCast, (can_facts hcan).2, hdf]; rfl
  rw [hwf] at HW
  rw [hdf] at HD
  obtain ⟨c0, c1, c2, c3, c4, c5, c6, c7⟩ := h.cells
  obtain ⟨b, o, qb, qo, ca, hwv, d0, hbl, hqb, e0, e1, e2⟩ := h.askAt hk hn
  have d1 := h.nextAt hk
  have hol := hsz k
  rw [hwv] at c3
  have hkI : (k : Int) < K.work.length := by omega
  have hnI : ((S.next.getD k 0 : Nat) : Int) < (K.own k).length := by omega
  obtain ⟨l0, l1, l2, l3⟩ := h.lt
  have gg : ∀ {a : Addr} {v : Value}, a.block < W.heap.size → W.cell? a = some v → ∀ w', Below W.heap.size W w' → w'.cell? a = some v := fun ha hv w' hb => (hb.cell ha).trans hv
  have g3 := gg (a := ⟨r, 3, none⟩) l0 c3
  have g4 := gg (a := ⟨r, 4, none⟩) l0 c4
  have gd0 := gg (a := ⟨b, o + k, none⟩) hbl d0
  have gd1 := gg (a := ⟨B.bn, k, none⟩) l2 d1
  have ge0 := gg (a := ⟨qb, qo + S.next.getD k 0 * 3, none⟩) hqb e0
  have ge1 := gg (a := ⟨qb, qo + S.next.getD k 0 * 3 + 1, none⟩) hqb e1
  have ge2 := gg (a := ⟨qb, qo + S.next.getD k 0 * 3 + 2, none⟩) hqb e2
  have HH := hid h
  have HNX := hid hn
  have HBS := hid hbs
  generalize S.next.getD k 0 = nx at c0 c1 c2 c3 c4 c5 c6 c7 d0 d1 e0 e1 e2 gd0 gd1 ge0 ge1 ge2 hn hnI
  generalize (K.own k).length = ol at c0 c1 c2 c3 c4 c5 c6 c7 d0 d1 e0 e1 e2 gd0 gd1 ge0 ge1 ge2 hn hnI hol
  generalize hak : S.ask K k = ak at e0 e1 e2 ge0 ge1 ge2
  obtain ⟨S2, hS2⟩ : ∃ S2, S2 = S.stepN K k := ⟨_, rfl⟩
  rw [← hS2]
  rw [step_is hcan] at hS2
  unfold Sh.body at hS2
  dsimp only at hS2
  simp only [hx, hak] at hS2
  have HS2 := hid hS2
  have HAK := hid hak
  clear c0 c1 c2 c3 c4 c5 c6 c7 d0 d1 e0 e1 e2 gg h hdf hwf hbs hS2 hak
  go_enter Try.func21, Try.ntmps21
  go_upto_region 1 with (first
    | (go_at_call 24; (with_reducible refine HD.out.mono ?_); rintro e w1 ⟨rfl, hq1⟩; have HW1 : Hid (Below W.heap.size W w1) := (by obtain ⟨q, rfl⟩ := hq1; exact below_drewN (Below.refl _ _) q); clear hq1)
    | (go_at_call 25; (with_reducible refine (HW.out _ HW1.out).mono ?_); rintro e w2 ⟨rfl, hb2⟩; have HW2 : Hid (Below W.heap.size W w2) := below_more hb2 HW1.out (Nat.le_refl _); clear hb2))
  go_cut [4] (fun v wx => AkV W ak v wx)
  case first =>
    refine wp_region_held_drew (S := fun w' => Below W.heap.size W w') (by kernel_rfl) HW2.out.drew (fun hHeld => ?_)
    refine wpAnyH_take (i := 0) (oi := { dst := some 14, op := Op.move (Operand.tmp 0), type := 34, pos := "ref.go:148", after := #[], guard := none }) (v := ?wav0) rfl (by kernel_rfl) (by kernel_rfl) (by kernel_rfl) (fun _ _ _ h => h) (Or.inl ⟨by rfl, ?wah0⟩) (by assumption) ?war0
    case wah0 => ((intro w hSw; (try dsimp only at hSw); go_simp); try with_reducible rfl)
    try simp only [Act.put, List.setIfInBounds_toArray, List.set_cons_zero, List.set_cons_succ]
    refine wpAnyH_take (i := 1) (oi := { dst := some 15, op := Op.nilCheck (Operand.tmp 14), type := 0, pos := "ref.go:148", after := #[{ on := 0, ground := Ground.data }], guard := none }) (v := ?wav1) rfl (by kernel_rfl) (by kernel_rfl) (by kernel_rfl) (fun _ _ _ h => h) (Or.inl ⟨by rfl, ?wah1⟩) (by assumption) ?war1
    case wah1 => ((intro w hSw; (try dsimp only at hSw); go_simp); try with_reducible rfl)
    try simp only [Act.put, List.setIfInBounds_toArray, List.set_cons_zero, List.set_cons_succ]
    refine wpAnyH_take (i := 2) (oi := { dst := some 16, op := Op.fieldAddr 84 (Operand.tmp 15) 3, type := 0, pos := "ref.go:148", after := #[{ on := 1, ground := Ground.data }], guard := none }) (v := ?wav2) rfl (by kernel_rfl) (by kernel_rfl) (by kernel_rfl) (fun _ _ _ h => h) (Or.inl ⟨by rfl, ?wah2⟩) (by assumption) ?war2
    case wah2 => ((intro w hSw; (try dsimp only at hSw); go_simp); try with_reducible rfl)
    try simp only [Act.put, List.setIfInBounds_toArray, List.set_cons_zero, List.set_cons_succ]
    refine wpAnyH_take (i := 3) (oi := { dst := some 17, op := Op.load 27 (Operand.tmp 16), type := 27, pos := "ref.go:148", after := #[{ on := 2, ground := Ground.data }], guard := none }) (v := ?wav3) rfl (by kernel_rfl) (by kernel_rfl) (by kernel_rfl) (fun _ _ _ h => h) (Or.inl ⟨by rfl, ?wah3⟩) (by assumption) ?war3
    case wah3 => ((intro w hSw; (try dsimp only at hSw); go_simp); try with_reducible rfl)
    try simp only [Act.put, List.setIfInBounds_toArray, List.set_cons_zero, List.set_cons_succ]
    refine wpAnyH_take (i := 4) (oi := { dst := some 18, op := Op.move (Operand.tmp 1), type := 3, pos := "ref.go:148", after := #[], guard := none }) (v := ?wav4) rfl (by kernel_rfl) (by kernel_rfl) (by kernel_rfl) (fun _ _ _ h => h) (Or.inl ⟨by rfl, ?wah4⟩) (by assumption) ?war4
    case wah4 => ((intro w hSw; (try dsimp only at hSw); go_simp); try with_reducible rfl)
    try simp only [Act.put, List.setIfInBounds_toArray, List.set_cons_zero, List.set_cons_succ]
    refine wpAnyH_take (i := 5) (oi := { dst := some 19, op := Op.indexAddr 27 (Operand.tmp 17) (Operand.tmp 18), type := 0, pos := "ref.go:148", after := #[{ on := 3, ground := Ground.data }, { on := 4, ground := Ground.data }], guard := none }) (v := ?wav5) rfl (by kernel_rfl) (by kernel_rfl) (by kernel_rfl) (fun _ _ _ h => h) (Or.inl ⟨by rfl, ?wah5⟩) (by assumption) ?war5
    case wah5 => ((intro w hSw; (try dsimp only at hSw); go_simp); try with_reducible rfl)
    try simp only [Act.put, List.setIfInBounds_toArray, List.set_cons_zero, List.set_cons_succ]
    refine wpAnyH_take (i := 6) (oi := { dst := some 20, op := Op.load 71 (Operand.tmp 19), type := 71, pos := "ref.go:148", after := #[{ on := 5, ground := Ground.data }], guard := none }) (v := ?wav6) rfl (by kernel_rfl) (by kernel_rfl) (by kernel_rfl) (fun _ _ _ h => h) (Or.inl ⟨by rfl, ?wah6⟩) (by assumption) ?war6
    case wah6 => ((intro w hSw; (try dsimp only at hSw); go_simp); try with_reducible rfl)
    try simp only [Act.put, List.setIfInBounds_toArray, List.set_cons_zero, List.set_cons_succ]
    refine wpAnyH_take (i := 7) (oi := { dst := some 21, op := Op.move (Operand.tmp 0), type := 34, pos := "ref.go:148", after := #[], guard := none }) (v := ?wav7) rfl (by kernel_rfl) (by kernel_rfl) (by kernel_rfl) (fun _ _ _ h => h) (Or.inl ⟨by rfl, ?wah7⟩) (by assumption) ?war7
    case wah7 => ((intro w hSw; (try dsimp only at hSw); go_simp); try with_reducible rfl)
    try simp only [Act.put, List.setIfInBounds_toArray, List.set_cons_zero, List.set_cons_succ]
    refine wpAnyH_take (i := 8) (oi := { dst := some 22, op := Op.nilCheck (Operand.tmp 21), type := 0, pos := "ref.go:148", after := #[{ on := 7, ground := Ground.data }], guard := none }) (v := ?wav8) rfl (by kernel_rfl) (by kernel_rfl) (by kernel_rfl) (fun _ _ _ h => h) (Or.inl ⟨by rfl, ?wah8⟩) (by assumption) ?war8
    case wah8 => ((intro w hSw; (try dsimp only at hSw); go_simp); try with_reducible rfl)
    try simp only [Act.put, List.setIfInBounds_toArray, List.set_cons_zero, List.set_cons_succ]
    refine wpAnyH_take (i := 9) (oi := { dst := some 23, op := Op.fieldAddr 84 (Operand.tmp 22) 4, type := 0, pos := "ref.go:148", after := #[{ on := 8, ground := Ground.data }], guard := none }) (v := ?wav9) rfl (by kernel_rfl) (by kernel_rfl) (by kernel_rfl) (fun _ _ _ h => h) (Or.inl ⟨by rfl, ?wah9⟩) (by assumption) ?war9
    case wah9 => ((intro w hSw; (try dsimp only at hSw); go_simp); try with_reducible rfl)
    try simp only [Act.put, List.setIfInBounds_toArray, List.set_cons_zero, List.set_cons_succ]
    refine wpAnyH_take (i := 10) (oi := { dst := some 24, op := Op.load 62 (Operand.tmp 23), type := 62, pos := "ref.go:148", after := #[{ on := 9, ground := Ground.data }], guard := none }) (v := ?wav10) rfl (by kernel_rfl) (by kernel_rfl) (by kernel_rfl) (fun _ _ _ h => h) (Or.inl ⟨by rfl, ?wah10⟩) (by assumption) ?war10
    case wah10 => ((intro w hSw; (try dsimp only at hSw); go_simp); try with_reducible rfl)
    try simp only [Act.put, List.setIfInBounds_toArray, List.set_cons_zero, List.set_cons_succ]
    refine wpAnyH_take (i := 11) (oi := { dst := some 25, op := Op.move (Operand.tmp 1), type := 3, pos := "ref.go:148", after := #[], guard := none }) (v := ?wav11) rfl (by kernel_rfl) (by kernel_rfl) (by kernel_rfl) (fun _ _ _ h => h) (Or.inl ⟨by rfl, ?wah11⟩) (by assumption) ?war11
    case wah11 => ((intro w hSw; (try dsimp only at hSw); go_simp); try with_reducible rfl)
    try simp only [Act.put, List.setIfInBounds_toArray, List.set_cons_zero, List.set_cons_succ]
    refine wpAnyH_take (i := 12) (oi := { dst := some 26, op := Op.indexAddr 62 (Operand.tmp 24) (Operand.tmp 25), type := 0, pos := "ref.go:148", after := #[{ on := 10, ground := Ground.data }, { on := 11, ground := Ground.data }], guard := none }) (v := ?wav12) rfl (by kernel_rfl) (by kernel_rfl) (by kernel_rfl) (fun _ _ _ h => h) (Or.inl ⟨by rfl, ?wah12⟩) (by assumption) ?war12
    case wah12 => ((intro w hSw; (try dsimp only at hSw); go_simp); try with_reducible rfl)
    try simp only [Act.put, List.setIfInBounds_toArray, List.set_cons_zero, List.set_cons_succ]
    refine wpAnyH_take (i := 13) (oi := { dst := some 27, op := Op.load 3 (Operand.tmp 26), type := 3, pos := "ref.go:148", after := #[{ on := 12, ground := Ground.data }], guard := none }) (v := ?wav13) rfl (by kernel_rfl) (by kernel_rfl) (by kernel_rfl) (fun _ _ _ h => h) (Or.inl ⟨by rfl, ?wah13⟩) (by assumption) ?war13
    case wah13 => ((intro w hSw; (try dsimp only at hSw); go_simp); try with_reducible rfl)
    try simp only [Act.put, List.setIfInBounds_toArray, List.set_cons_zero, List.set_cons_succ]
    refine wpAnyH_take (i := 14) (oi := { dst := some 28, op := Op.indexAddr 71 (Operand.tmp 20) (Operand.tmp 27), type := 0, pos := "ref.go:148", after := #[{ on := 6, ground := Ground.data }, { on := 13, ground := Ground.data }], guard := none }) (v := ?wav14) rfl (by kernel_rfl) (by kernel_rfl) (by kernel_rfl) (fun _ _ _ h => h) (Or.inl ⟨by rfl, ?wah14⟩) (by assumption) ?war14
    case wah14 => ((intro w hSw; (try dsimp only at hSw); go_simp); try with_reducible rfl)
    try simp only [Act.put, List.setIfInBounds_toArray, List.set_cons_zero, List.set_cons_succ]
    refine wpAnyH_take (i := 15) (oi := { dst := some 29, op := Op.load 70 (Operand.tmp 28), type := 70, pos := "ref.go:148", after := #[{ on := 14, ground := Ground.data }], guard := none }) (v := ?wav15) rfl (by kernel_rfl) (by kernel_rfl) (by kernel_rfl) (fun _ _ _ h => h) (Or.inl ⟨by rfl, ?wah15⟩) (by assumption) ?war15
    case wah15 => ((intro w hSw; (try dsimp only at hSw); go_simp); try with_reducible rfl)
    try simp only [Act.put, List.setIfInBounds_toArray, List.set_cons_zero, List.set_cons_succ]
    refine wpAnyH_ready (rs := [16]) (by kernel_rfl) (by simp) ?_
    refine AllReadyH.cons (o := { dst := some 4, op := Op.alloc 70, type := 0, pos := "ref.go:148", after := #[], guard := none }) rfl (fun K hK => ?_) AllReadyH.nil
    go_simp; refine hK.out _ _ (by first | exact (HW2.out.alloc HW2.out.size _).drew | exact HW2.out.alloc HW2.out.size _) (fun hHeld => ?_)
    clear hK K
    try simp only [Act.put, List.setIfInBounds_toArray, List.set_cons_zero, List.set_cons_succ]
    refine wpAnyH_ready (rs := [17]) (by kernel_rfl) (by simp) ?_
    refine AllReadyH.cons (o := { dst := none, op := Op.store 70 (Operand.tmp 4) (Operand.tmp 29), type := 0, pos := "ref.go:148", after := #[{ on := 16, ground := Ground.data }, { on := 15, ground := Ground.data }, { on := 0, ground := Ground.phase }, { on := 1, ground := Ground.phase }, { on := 2, ground := Ground.phase }, { on := 3, ground := Ground.phase }, { on := 4, ground := Ground.phase }, { on := 5, ground := Ground.phase }, { on := 6, ground := Ground.phase }, { on := 7, ground := Ground.phase }, { on := 8, ground := Ground.phase }, { on := 9, ground := Ground.phase }, { on := 10, ground := Ground.phase }, { on := 11, ground := Ground.phase }, { on := 12, ground := Ground.phase }, { on := 13, ground := Ground.phase }, { on := 14, ground := Ground.phase }, { on := 15, ground := Ground.phase }, { on := 16, ground := Ground.phase }], guard := none }) rfl (fun K hK => ?_) AllReadyH.nil
    go_simp; refine hK.out _ _ (by exact (HW2.out.alloc HW2.out.size _).drew) (fun hHeld => ?_)
    clear hK K
    try simp only [Act.put, List.setIfInBounds_toArray, List.set_cons_zero, List.set_cons_succ]
    refine wpAnyH_done (by kernel_rfl) ?_ _
    go_wp2_with fail
    go_meet
    exact ⟨_, rfl, HW2.out.size, heap_alloc_new w2 _, (HW2.out.alloc HW2.out.size _).drew⟩
  case rest =>
    obtain ⟨b2, rfl, hbz, hbb, hbc⟩ := hcut
    have HBC := hid hbc
    have HT := hid (HH.out.below hbc)
    have HBB := hid hbb
    obtain ⟨c0, c1, c2, c3, c4, c5, c6, c7⟩ := HT.out.cells
    obtain ⟨f0, f1, f2⟩ := HT.out.handAt hk
    rw [hx] at f0
    have y0 := cell_of_row _ _ 0 _ _ _ hbb
    have y1 := cell_of_row _ _ 1 _ _ _ hbb
    have y2 := cell_of_row _ _ 2 _ _ _ hbb
    simp only [List.getElem?_toArray, List.getElem?_cons_zero, List.getElem?_cons_succ] at y0 y1 y2
    have ff0 : wc.frozen? ⟨B.bh, k * 3, none⟩ = false := frozen_of_row _ _ _ _ _ HT.out.hands
    have ff1 : wc.frozen? ⟨B.bh, k * 3 + 1, none⟩ = false := frozen_of_row _ _ _ _ _ HT.out.hands
    have ff2 : wc.frozen? ⟨B.bh, k * 3 + 2, none⟩ = false := frozen_of_row _ _ _ _ _ HT.out.hands
    have fr7 : wc.frozen? ⟨r, 7, none⟩ = false := frozen_of_row _ _ _ _ _ HT.out.head
    have hrh : r ≠ B.bh := tag_ne HT.out.tagR HT.out.tagH (by decide)
    have hrl2 : r ≠ B.bl := tag_ne HT.out.tagR HT.out.tagL (by decide)
    have hhl : B.bh ≠ B.bl := tag_ne HT.out.tagH HT.out.tagL (by decide)
    have hb2h : b2 ≠ B.bh := by omega
    have hb2l : b2 ≠ B.bl := by omega
    have hb2r : b2 ≠ r := by omega
    have hkl : k < S.hands.length := by rw [HT.out.hnl]; exact hk
    have HBW := hid (And.intro (But.of_below (X := B.fp r) hbc) (hbc.mono HBS.out))
    clear g3 g4 gd0 gd1 ge0 ge1 ge2 hbc hbb
    have hbsz : base ≤ wc.heap.size := by have := HBC.out.size; have := HBS.out; omega
    have hb2z : b2 < wc.heap.size := (Array.getElem?_eq_some_iff.1 HBB.out).1
    have hcn : S.calls.length ≤ 1000000 := by have := ho.cnt; omega
    have h1 := HT.out.setHand k hkl 2 (by omega) (.int .i64 (S.calls.length : Nat)) ⟨(S.hand k).at_, (S.hand k).found, S.calls.length⟩ rfl
    obtain ⟨X1, hX1⟩ : ∃ X1, X1 = wc.setCell ⟨B.bh, k * 3 + 2, none⟩ (.int .i64 (S.calls.length : Nat)) := ⟨_, rfl⟩
    rw [← hX1] at h1
    obtain ⟨S1, hS1⟩ : ∃ S1 : Sh, S1 = { S with hands := S.hands.set k ⟨(S.hand k).at_, (S.hand k).found, S.calls.length⟩ } := ⟨_, rfl⟩
    rw [← hS1] at h1
    have hc1 : S1.calls = S.calls := by rw [hS1]
    have hst1 : S1.steps = S.steps := by rw [hS1]
    have hbX : X1.heap[b2]? = some (.cells #[.int .i64 ak.kind, .string ak.key, .int .i64 ak.value] 70 (0, 0)) := by rw [hX1]; exact (heap_setCell_other _ _ _ _ hb2h).trans HBB.out
    have hzX : X1.heap.size = wc.heap.size := by rw [hX1]; simp
    have hbutX : But (B.fp r) W X1 := by rw [hX1]; exact HBW.out.1.setCell _ _ (.inr (.inr (.inr (.inl rfl))))
    have hbelX : Below base W X1 := by rw [hX1]; exact HBW.out.2.setCell HT.out.ge.2.2.2 _
    obtain ⟨pc, cc, hvc, -⟩ := own_shape HT.out.calls
    rw [hvc] at c6
    generalize hrn : S.calls.length = rn at *
    go_upto_region 7 with fail
    rw [← hX1]
    have HX1 := hid h1
    have HBX := hid hbX
    have HBUX := hid (And.intro hbutX hbelX)
    obtain ⟨x0, x1, x2, x3, x4, x5, x6, x7⟩ := h1.cells
    rw [hvc] at x6
    rw [hst1] at x7
    have HVC := hid hvc
    have HP7 : Hid (X1.ownsRow base 46 8 (.slice pc rn cc) rn (S.calls.flatMap Cl.cells)) := by have := h1.calls; rw [hvc, hc1, hrn] at this; exact this
    have HK8 : Hid (∀ (o : Obj) (w8 : World), (X1.alloc o).drew.grownBy w8 (Value.slice pc rn cc).ownBlock → w8.heap[r]? = some (headR K S1 B S1.steps) ∧ w8.heap[b2]? = some (.cells #[.int .i64 ak.kind, .string ak.key, .int .i64 ak.value] 70 (0, 0))) := fun o w8 hg => by
      have hg2 : (X1.alloc o).grownBy w8 B.vc.ownBlock := by rw [HVC.out]; exact grown_undrew hg
      have tg : ∀ b, B.vc.ownBlock = some b → tagAt X1 b = some (46 + 1) := fun b hb => own_tag HX1.out.calls hb
      obtain ⟨e0, -, -, -, -⟩ := HX1.out.grown hg2 (fun b hb => ⟨own_ge HX1.out.calls b hb, tag_ne (tg b hb) HX1.out.tagR (by decide), tag_ne (tg b hb) HX1.out.tagL (by decide), tag_ne (tg b hb) HX1.out.tagN (by decide), tag_ne (tg b hb) HX1.out.tagH (by decide)⟩)
      refine ⟨e0, ?_⟩
      refine ((hg2.block b2 (by simp; omega) (fun e => ?_)).trans (Below.heap_alloc X1 o b2 (by omega))).trans HBX.out
      exact tag_ne (tg b2 e.symm) (show tagAt X1 b2 = some (70 + 1) by unfold tagAt; rw [HBX.out]; rfl) (by decide) rfl
    have HFIN : Hid (∀ (o : Obj) (w8 : World) (v' : Value), w8.ownsRow base 46 8 v' (rn + 1) (S.calls.flatMap Cl.cells ++ Cl.cells ⟨k, ak.kind, ak.key, ak.value, S.steps, -1, 0, 0⟩) → (X1.alloc o).drew.grownBy w8 (Value.slice pc rn cc).ownBlock → Stayed (X1.alloc o).drew (.slice pc rn cc) v' →
        S0I W base r K S1 B k ak b2 (w8.setCell ⟨r, 6, none⟩ v')) := fun o w8 v' ho8 hg hs => by
      have hg2 : (X1.alloc o).grownBy w8 B.vc.ownBlock := by rw [HVC.out]; exact grown_undrew hg
      have ho9 : w8.ownsRow base 46 8 v' (S1.calls.length + 1) (S1.calls.flatMap Cl.cells ++ Cl.cells ⟨k, ak.kind, ak.key, ak.value, S1.steps, -1, 0, 0⟩) := by rw [hc1, hst1, hrn]; exact ho8
      have s1 := HX1.out.addCall ho9 hg2
      have hbg : ∀ g, (Value.slice pc rn cc).ownBlock = some g → B.fp r g := fun g hg' => .inr (.inr (.inr (.inr (.inr (by rw [HVC.out]; exact hg')))))
      have hb8 : But (B.fp r) W w8 := HBUX.out.1.trans ⟨fun b hl hn => (hg2.block b (by simp; omega) (fun e => hn (hbg b (by rw [← HVC.out]; exact e.symm)))).trans (Below.heap_alloc X1 o b hl), by have := hg2.size; simp at this; omega⟩
      have hl8 : Below base W w8 := (HBUX.out.2.alloc (by omega) o).drew.grown hg (by show base ≤ (X1.alloc o).heap.size; simp; omega) (fun x e => own_ge HP7.out x e)
      have hA8 := (HK8.out o w8 hg).2
      refine ⟨v', s1, (heap_setCell_other _ _ _ _ hb2r).trans hA8, hb8.setCell _ _ (.inl rfl), hl8.setCell HX1.out.ge.1 _, fun g hgg => ?_⟩
      rcases hs g hgg with e | e
      · exact .inl (by rw [HVC.out]; exact e)
      · refine .inr ?_
        have e : (X1.alloc o).heap.size ≤ g := e
        have := HBC.out.size
        simp at e
        omega
    have c6L : ∀ o : Obj, (X1.alloc o).cell? ⟨r, 6, none⟩ = some (.slice pc rn cc) := fun o => (World.cell?_of_block (a := ⟨r, 6, none⟩) (Below.heap_alloc X1 o r HX1.out.lt.1)).trans x6
    have c6M : ∀ o : Obj, (X1.alloc o).drew.cell? ⟨r, 6, none⟩ = some (.slice pc rn cc) := c6L
    have HSL : Hid (∀ o : Obj, (X1.alloc o).drew.heap[b2]? = some (.cells #[.int .i64 ak.kind, .string ak.key, .int .i64 ak.value] 70 (0, 0)) ∧ (X1.alloc o).drew.cell? ⟨r, 7, none⟩ = some (.int .i64 (S.steps : Nat))) := fun o => ⟨(Below.heap_alloc X1 o b2 (by omega)).trans HBX.out, (World.cell?_of_block (a := ⟨r, 7, none⟩) (Below.heap_alloc X1 o r HX1.out.lt.1)).trans x7⟩
    have hHeld0 : X1.drew.heap[b2]? = some (.cells #[.int .i64 ak.kind, .string ak.key, .int .i64 ak.value] 70 (0, 0)) ∧ X1.drew.cell? ⟨r, 7, none⟩ = some (.int .i64 (S.steps : Nat)) := ⟨hbX, x7⟩
    have HH0 := hid hHeld0
    have a0 : ∀ w' : World, (w'.heap[b2]? = some (.cells #[.int .i64 ak.kind, .string ak.key, .int .i64 ak.value] 70 (0, 0)) ∧ w'.cell? ⟨r, 7, none⟩ = some (.int .i64 (S.steps : Nat))) → w'.cell? ⟨b2, 0, none⟩ = some (.int .i64 ak.kind) := fun w' h => cell_of_row w' _ 0 _ _ _ h.1
    have a1 : ∀ w' : World, (w'.heap[b2]? = some (.cells #[.int .i64 ak.kind, .string ak.key, .int .i64 ak.value] 70 (0, 0)) ∧ w'.cell? ⟨r, 7, none⟩ = some (.int .i64 (S.steps : Nat))) → w'.cell? ⟨b2, 1, none⟩ = some (.string ak.key) := fun w' h => cell_of_row w' _ 1 _ _ _ h.1
    have a2 : ∀ w' : World, (w'.heap[b2]? = some (.cells #[.int .i64 ak.kind, .string ak.key, .int .i64 ak.value] 70 (0, 0)) ∧ w'.cell? ⟨r, 7, none⟩ = some (.int .i64 (S.steps : Nat))) → w'.cell? ⟨b2, 2, none⟩ = some (.int .i64 ak.value) := fun w' h => cell_of_row w' _ 2 _ _ _ h.1
    have a7 : ∀ w' : World, (w'.heap[b2]? = some (.cells #[.int .i64 ak.kind, .string ak.key, .int .i64 ak.value] 70 (0, 0)) ∧ w'.cell? ⟨r, 7, none⟩ = some (.int .i64 (S.steps : Nat))) → w'.cell? ⟨r, 7, none⟩ = some (.int .i64 (S.steps : Nat)) := fun w' h => h.2
    have HCS := hid (And.intro hS1 (And.intro hrn hc1))
    have HTG := hid HT.out.hnl
    have HZX := hid hzX
    have hbX1 : base ≤ X1.heap.size := by omega
    clear hX1 hbX hvc hst1 h1 hbutX hbelX hzX x0 x1 x2 x3 x4 x5 c0 c1 c2 c3 c4 c5 c6 c7 f0 f1 f2 y0 y1 y2 ff0 ff1 ff2 fr7
    go_cut [5] (fun p wx => p = .pointer (some ⟨B.bh, k * 3, none⟩) ∧ S0I W base r K S1 B k ak b2 wx)
    case first =>
      refine wp_region_held_drew (S := fun w' : World => w'.heap[b2]? = some (.cells #[.int .i64 ak.kind, .string ak.key, .int .i64 ak.value] 70 (0, 0)) ∧ w'.cell? ⟨r, 7, none⟩ = some (.int .i64 (S.steps : Nat))) (by kernel_rfl) hHeld0 (fun hHeld => ?_)
      refine wpAnyH_take (i := 0) (oi := { dst := some 64, op := Op.move (Operand.tmp 0), type := 34, pos := "ref.go:153", after := #[], guard := none }) (v := ?s0v0) rfl (by kernel_rfl) (by kernel_rfl) (by kernel_rfl) (fun _ _ _ h => h) (Or.inl ⟨by rfl, ?s0h0⟩) (by assumption) ?s0r0
      case s0h0 => ((intro w hSw; (try dsimp only at hSw); go_simp); try with_reducible rfl)
      try simp only [Act.put, List.setIfInBounds_toArray, List.set_cons_zero, List.set_cons_succ]
      refine wpAnyH_take (i := 1) (oi := { dst := some 65, op := Op.move (Operand.tmp 0), type := 34, pos := "ref.go:153", after := #[], guard := none }) (v := ?s0v1) rfl (by kernel_rfl) (by kernel_rfl) (by kernel_rfl) (fun _ _ _ h => h) (Or.inl ⟨by rfl, ?s0h1⟩) (by assumption) ?s0r1
      case s0h1 => ((intro w hSw; (try dsimp only at hSw); go_simp); try with_reducible rfl)
      try simp only [Act.put, List.setIfInBounds_toArray, List.set_cons_zero, List.set_cons_succ]
      refine wpAnyH_take (i := 2) (oi := { dst := some 66, op := Op.nilCheck (Operand.tmp 65), type := 0, pos := "ref.go:153", after := #[{ on := 1, ground := Ground.data }], guard := none }) (v := ?s0v2) rfl (by kernel_rfl) (by kernel_rfl) (by kernel_rfl) (fun _ _ _ h => h) (Or.inl ⟨by rfl, ?s0h2⟩) (by assumption) ?s0r2
      case s0h2 => ((intro w hSw; (try dsimp only at hSw); go_simp); try with_reducible rfl)
      try simp only [Act.put, List.setIfInBounds_toArray, List.set_cons_zero, List.set_cons_succ]
      refine wpAnyH_take (i := 3) (oi := { dst := some 67, op := Op.fieldAddr 84 (Operand.tmp 66) 6, type := 0, pos := "ref.go:153", after := #[{ on := 2, ground := Ground.data }], guard := none }) (v := ?s0v3) rfl (by kernel_rfl) (by kernel_rfl) (by kernel_rfl) (fun _ _ _ h => h) (Or.inl ⟨by rfl, ?s0h3⟩) (by assumption) ?s0r3
      case s0h3 => ((intro w hSw; (try dsimp only at hSw); go_simp); try with_reducible rfl)
      try simp only [Act.put, List.setIfInBounds_toArray, List.set_cons_zero, List.set_cons_succ]
      refine wpAnyH_take (i := 5) (oi := { dst := some 69, op := Op.move (Operand.tmp 1), type := 3, pos := "ref.go:153", after := #[], guard := none }) (v := ?s0v5) rfl (by kernel_rfl) (by kernel_rfl) (by kernel_rfl) (fun _ _ _ h => h) (Or.inl ⟨by rfl, ?s0h5⟩) (by assumption) ?s0r5
      case s0h5 => ((intro w hSw; (try dsimp only at hSw); go_simp); try with_reducible rfl)
      try simp only [Act.put, List.setIfInBounds_toArray, List.set_cons_zero, List.set_cons_succ]
      refine wpAnyH_take (i := 6) (oi := { dst := some 70, op := Op.fieldAddr 70 (Operand.tmp 4) 0, type := 0, pos := "ref.go:153", after := #[], guard := none }) (v := ?s0v6) rfl (by kernel_rfl) (by kernel_rfl) (by kernel_rfl) (fun _ _ _ h => h) (Or.inl ⟨by rfl, ?s0h6⟩) (by assumption) ?s0r6
      case s0h6 => ((intro w hSw; (try dsimp only at hSw); go_simp); try with_reducible rfl)
      try simp only [Act.put, List.setIfInBounds_toArray, List.set_cons_zero, List.set_cons_succ]
      refine wpAnyH_take (i := 7) (oi := { dst := some 71, op := Op.load 3 (Operand.tmp 70), type := 3, pos := "ref.go:153", after := #[{ on := 6, ground := Ground.data }], guard := none }) (v := ?s0v7) rfl (by kernel_rfl) (by kernel_rfl) (by kernel_rfl) (fun _ _ _ h => h) (Or.inl ⟨by rfl, ?s0h7⟩) (by assumption) ?s0r7
      case s0h7 => ((intro w hSw; (try dsimp only at hSw); go_simp); try with_reducible rfl)
      try simp only [Act.put, List.setIfInBounds_toArray, List.set_cons_zero, List.set_cons_succ]
      refine wpAnyH_take (i := 8) (oi := { dst := some 72, op := Op.fieldAddr 70 (Operand.tmp 4) 1, type := 0, pos := "ref.go:153", after := #[], guard := none }) (v := ?s0v8) rfl (by kernel_rfl) (by kernel_rfl) (by kernel_rfl) (fun _ _ _ h => h) (Or.inl ⟨by rfl, ?s0h8⟩) (by assumption) ?s0r8
      case s0h8 => ((intro w hSw; (try dsimp only at hSw); go_simp); try with_reducible rfl)
      try simp only [Act.put, List.setIfInBounds_toArray, List.set_cons_zero, List.set_cons_succ]
      refine wpAnyH_take (i := 9) (oi := { dst := some 73, op := Op.load 9 (Operand.tmp 72), type := 9, pos := "ref.go:153", after := #[{ on := 8, ground := Ground.data }], guard := none }) (v := ?s0v9) rfl (by kernel_rfl) (by kernel_rfl) (by kernel_rfl) (fun _ _ _ h => h) (Or.inl ⟨by rfl, ?s0h9⟩) (by assumption) ?s0r9
      case s0h9 => ((intro w hSw; (try dsimp only at hSw); go_simp); try with_reducible rfl)
      try simp only [Act.put, List.setIfInBounds_toArray, List.set_cons_zero, List.set_cons_succ]
      refine wpAnyH_take (i := 10) (oi := { dst := some 74, op := Op.fieldAddr 70 (Operand.tmp 4) 2, type := 0, pos := "ref.go:153", after := #[], guard := none }) (v := ?s0v10) rfl (by kernel_rfl) (by kernel_rfl) (by kernel_rfl) (fun _ _ _ h => h) (Or.inl ⟨by rfl, ?s0h10⟩) (by assumption) ?s0r10
      case s0h10 => ((intro w hSw; (try dsimp only at hSw); go_simp); try with_reducible rfl)
      try simp only [Act.put, List.setIfInBounds_toArray, List.set_cons_zero, List.set_cons_succ]
      refine wpAnyH_take (i := 11) (oi := { dst := some 75, op := Op.load 2 (Operand.tmp 74), type := 2, pos := "ref.go:153", after := #[{ on := 10, ground := Ground.data }], guard := none }) (v := ?s0v11) rfl (by kernel_rfl) (by kernel_rfl) (by kernel_rfl) (fun _ _ _ h => h) (Or.inl ⟨by rfl, ?s0h11⟩) (by assumption) ?s0r11
      case s0h11 => ((intro w hSw; (try dsimp only at hSw); go_simp); try with_reducible rfl)
      try simp only [Act.put, List.setIfInBounds_toArray, List.set_cons_zero, List.set_cons_succ]
      refine wpAnyH_take (i := 12) (oi := { dst := some 76, op := Op.move (Operand.tmp 0), type := 34, pos := "ref.go:153", after := #[], guard := none }) (v := ?s0v12) rfl (by kernel_rfl) (by kernel_rfl) (by kernel_rfl) (fun _ _ _ h => h) (Or.inl ⟨by rfl, ?s0h12⟩) (by assumption) ?s0r12
      case s0h12 => ((intro w hSw; (try dsimp only at hSw); go_simp); try with_reducible rfl)
      try simp only [Act.put, List.setIfInBounds_toArray, List.set_cons_zero, List.set_cons_succ]
      refine wpAnyH_take (i := 13) (oi := { dst := some 77, op := Op.nilCheck (Operand.tmp 76), type := 0, pos := "ref.go:153", after := #[{ on := 12, ground := Ground.data }], guard := none }) (v := ?s0v13) rfl (by kernel_rfl) (by kernel_rfl) (by kernel_rfl) (fun _ _ _ h => h) (Or.inl ⟨by rfl, ?s0h13⟩) (by assumption) ?s0r13
      case s0h13 => ((intro w hSw; (try dsimp only at hSw); go_simp); try with_reducible rfl)
      try simp only [Act.put, List.setIfInBounds_toArray, List.set_cons_zero, List.set_cons_succ]
      refine wpAnyH_take (i := 14) (oi := { dst := some 78, op := Op.fieldAddr 84 (Operand.tmp 77) 7, type := 0, pos := "ref.go:153", after := #[{ on := 13, ground := Ground.data }], guard := none }) (v := ?s0v14) rfl (by kernel_rfl) (by kernel_rfl) (by kernel_rfl) (fun _ _ _ h => h) (Or.inl ⟨by rfl, ?s0h14⟩) (by assumption) ?s0r14
      case s0h14 => ((intro w hSw; (try dsimp only at hSw); go_simp); try with_reducible rfl)
      try simp only [Act.put, List.setIfInBounds_toArray, List.set_cons_zero, List.set_cons_succ]
      refine wpAnyH_take (i := 15) (oi := { dst := some 79, op := Op.load 3 (Operand.tmp 78), type := 3, pos := "ref.go:153", after := #[{ on := 14, ground := Ground.data }], guard := none }) (v := ?s0v15) rfl (by kernel_rfl) (by kernel_rfl) (by kernel_rfl) (fun _ _ _ h => h) (Or.inl ⟨by rfl, ?s0h15⟩) (by assumption) ?s0r15
      case s0h15 => ((intro w hSw; (try dsimp only at hSw); go_simp); try with_reducible rfl)
      try simp only [Act.put, List.setIfInBounds_toArray, List.set_cons_zero, List.set_cons_succ]
      refine wpAnyH_take (i := 16) (oi := { dst := some 80, op := Op.build 46 #[(0, Operand.tmp 69), (1, Operand.tmp 71), (2, Operand.tmp 73), (3, Operand.tmp 75), (4, Operand.tmp 79), (5, Operand.const (Value.int IntKind.i64 (-1)))], type := 46, pos := "ref.go:153", after := #[{ on := 5, ground := Ground.data }, { on := 7, ground := Ground.data }, { on := 9, ground := Ground.data }, { on := 11, ground := Ground.data }, { on := 15, ground := Ground.data }], guard := none }) (v := ?s0v16) rfl (by kernel_rfl) (by kernel_rfl) (by kernel_rfl) (fun _ _ _ h => h) (Or.inl ⟨by rfl, ?s0h16⟩) (by assumption) ?s0r16
      case s0h16 => ((intro w hSw; (try dsimp only at hSw); go_simp); try with_reducible rfl)
      try simp only [Act.put, List.setIfInBounds_toArray, List.set_cons_zero, List.set_cons_succ]
      refine wpAnyH_ready (rs := [4, 17]) (by kernel_rfl) (by simp) ?_
      refine AllReadyH.cons (o := { dst := some 68, op := Op.load 44 (Operand.tmp 67), type := 44, pos := "ref.go:153", after := #[{ on := 3, ground := Ground.data }], guard := none }) rfl (fun K hK => ?_) ?_
      · go_simp; refine hK.out _ _ (by first | exact HH0.out | exact HSL.out _) (fun hHeld => ?_)
        clear hK K
        try simp only [Act.put, List.setIfInBounds_toArray, List.set_cons_zero, List.set_cons_succ]
        refine wpAnyH_ready (rs := [17]) (by kernel_rfl) (by simp) ?_
        refine AllReadyH.cons (o := { dst := some 81, op := Op.buildSlice 44 1 #[(0, Operand.tmp 80)], type := 44, pos := "ref.go:153", after := #[{ on := 16, ground := Ground.data }], guard := none }) rfl (fun K hK => ?_) AllReadyH.nil
        go_simp; refine hK.out _ _ (HSL.out _) (fun hHeld => ?_)
        clear hK K
        try simp only [Act.put, List.setIfInBounds_toArray, List.set_cons_zero, List.set_cons_succ]
        refine wpAnyH_ready (rs := [18]) (by kernel_rfl) (by simp) ?_
        refine AllReadyH.cons (o := { dst := some 82, op := Op.call { callee := Callee.builtin Builtin.append, args := #[Operand.tmp 68, Operand.tmp 81], argTypes := #[44, 44] }, type := 44, pos := "ref.go:153", after := #[{ on := 4, ground := Ground.data }, { on := 17, ground := Ground.data }], guard := none }) rfl (fun K hK => ?_) AllReadyH.nil
        (refine step_app ECl rfl (.tmp 68) (.tmp 81) rfl base (.slice pc rn cc) rn (S.calls.flatMap Cl.cells) rfl (HP7.out.alloc _) _ 1 1 (Cl.cells ⟨(k : Nat), ak.kind, ak.key, ak.value, (S.steps : Nat), -1, 0, 0⟩) rfl rfl (row_newAt _ _ _ _ rfl) (cl_ones2 _) (by unfold maxLen; omega) (by omega) (by simp; omega) ?_); intro vp' w8 ho8 hg8 hs8; obtain ⟨p8, c8, rfl, -⟩ := own_shape ho8; have HO8 := hid ho8; have HG8 := hid hg8; have HT8 := hid hs8; clear ho8 hg8 hs8; obtain ⟨hh8, ha8⟩ := HK8.out _ _ HG8.out; have HH8 := hid hh8; have HA8 := hid ha8; have z6 := cell_of_row _ _ 6 _ _ _ hh8; have zf6 := frozen_of_row _ _ 6 _ _ hh8; have z7 := cell_of_row _ _ 7 _ _ _ hh8; have z8 : w8.cell? ⟨r, 7, none⟩ = some (.int .i64 (S.steps : Nat)) := z7.trans (by rw [HCS.out.1]; rfl); have Z8 := hid z8; clear hh8 ha8 z7 z8; refine hK.out _ _ ⟨HA8.out, Z8.out⟩ (fun hHeld => ?_)
        clear hK K
        try simp only [Act.put, List.setIfInBounds_toArray, List.set_cons_zero, List.set_cons_succ]
        refine wpAnyH_take (i := 19) (oi := { dst := some 83, op := Op.nilCheck (Operand.tmp 64), type := 0, pos := "ref.go:153", after := #[{ on := 0, ground := Ground.data }, { on := 0, ground := Ground.phase }, { on := 1, ground := Ground.phase }, { on := 2, ground := Ground.phase }, { on := 3, ground := Ground.phase }, { on := 4, ground := Ground.phase }, { on := 5, ground := Ground.phase }, { on := 6, ground := Ground.phase }, { on := 7, ground := Ground.phase }, { on := 8, ground := Ground.phase }, { on := 9, ground := Ground.phase }, { on := 10, ground := Ground.phase }, { on := 11, ground := Ground.phase }, { on := 12, ground := Ground.phase }, { on := 13, ground := Ground.phase }, { on := 14, ground := Ground.phase }, { on := 15, ground := Ground.phase }, { on := 16, ground := Ground.phase }, { on := 17, ground := Ground.phase }, { on := 18, ground := Ground.phase }], guard := none }) (v := ?s0av19) rfl (by kernel_rfl) (by kernel_rfl) (by kernel_rfl) (fun _ _ _ h => h) (Or.inl ⟨by rfl, ?s0ah19⟩) (by assumption) ?s0ar19
        case s0ah19 => ((intro w hSw; (try dsimp only at hSw); go_simp); try with_reducible rfl)
        try simp only [Act.put, List.setIfInBounds_toArray, List.set_cons_zero, List.set_cons_succ]
        refine wpAnyH_take (i := 20) (oi := { dst := some 84, op := Op.fieldAddr 84 (Operand.tmp 83) 6, type := 0, pos := "ref.go:153", after := #[{ on := 19, ground := Ground.data }, { on := 0, ground := Ground.phase }, { on := 1, ground := Ground.phase }, { on := 2, ground := Ground.phase }, { on := 3, ground := Ground.phase }, { on := 4, ground := Ground.phase }, { on := 5, ground := Ground.phase }, { on := 6, ground := Ground.phase }, { on := 7, ground := Ground.phase }, { on := 8, ground := Ground.phase }, { on := 9, ground := Ground.phase }, { on := 10, ground := Ground.phase }, { on := 11, ground := Ground.phase }, { on := 12, ground := Ground.phase }, { on := 13, ground := Ground.phase }, { on := 14, ground := Ground.phase }, { on := 15, ground := Ground.phase }, { on := 16, ground := Ground.phase }, { on := 17, ground := Ground.phase }, { on := 18, ground := Ground.phase }], guard := none }) (v := ?s0av20) rfl (by kernel_rfl) (by kernel_rfl) (by kernel_rfl) (fun _ _ _ h => h) (Or.inl ⟨by rfl, ?s0ah20⟩) (by assumption) ?s0ar20
        case s0ah20 => ((intro w hSw; (try dsimp only at hSw); go_simp); try with_reducible rfl)
        try simp only [Act.put, List.setIfInBounds_toArray, List.set_cons_zero, List.set_cons_succ]
        refine wpAnyH_ready (rs := [21]) (by kernel_rfl) (by simp) ?_
        refine AllReadyH.cons (o := { dst := none, op := Op.store 44 (Operand.tmp 84) (Operand.tmp 82), type := 0, pos := "ref.go:153", after := #[{ on := 20, ground := Ground.data }, { on := 18, ground := Ground.data }, { on := 18, ground := Ground.chain }, { on := 0, ground := Ground.phase }, { on := 1, ground := Ground.phase }, { on := 2, ground := Ground.phase }, { on := 3, ground := Ground.phase }, { on := 4, ground := Ground.phase }, { on := 5, ground := Ground.phase }, { on := 6, ground := Ground.phase }, { on := 7, ground := Ground.phase }, { on := 8, ground := Ground.phase }, { on := 9, ground := Ground.phase }, { on := 10, ground := Ground.phase }, { on := 11, ground := Ground.phase }, { on := 12, ground := Ground.phase }, { on := 13, ground := Ground.phase }, { on := 14, ground := Ground.phase }, { on := 15, ground := Ground.phase }, { on := 16, ground := Ground.phase }, { on := 17, ground := Ground.phase }, { on := 18, ground := Ground.phase }], guard := none }) rfl (fun K hK => ?_) AllReadyH.nil
        go_simp; refine hK.out _ _ ⟨(heap_setCell_other _ _ _ _ hb2r).trans HA8.out, (cell_of_row _ _ 7 _ _ _ (heap_setCell_same _ _ 6 _ _ _ HH8.out)).trans (by rw [HCS.out.1]; rfl)⟩ (fun hHeld => ?_)
        clear hK K
        try simp only [Act.put, List.setIfInBounds_toArray, List.set_cons_zero, List.set_cons_succ]
        refine wpAnyH_done (by kernel_rfl) ?_ _
        go_wp2_with fail
        go_meet
        exact ⟨rfl, HFIN.out _ _ _ HO8.out HG8.out HT8.out⟩
      refine AllReadyH.cons (o := { dst := some 81, op := Op.buildSlice 44 1 #[(0, Operand.tmp 80)], type := 44, pos := "ref.go:153", after := #[{ on := 16, ground := Ground.data }], guard := none }) rfl (fun K hK => ?_) AllReadyH.nil
      go_simp; refine hK.out _ _ (HSL.out _) (fun hHeld => ?_)
      clear hK K
      try simp only [Act.put, List.setIfInBounds_toArray, List.set_cons_zero, List.set_cons_succ]
      refine wpAnyH_ready (rs := [4]) (by kernel_rfl) (by simp) ?_
      refine AllReadyH.cons (o := { dst := some 68, op := Op.load 44 (Operand.tmp 67), type := 44, pos := "ref.go:153", after := #[{ on := 3, ground := Ground.data }], guard := none }) rfl (fun K hK => ?_) AllReadyH.nil
      go_simp; refine hK.out _ _ (by first | exact HH0.out | exact HSL.out _) (fun hHeld => ?_)
      clear hK K
      try simp only [Act.put, List.setIfInBounds_toArray, List.set_cons_zero, List.set_cons_succ]
      refine wpAnyH_ready (rs := [18]) (by kernel_rfl) (by simp) ?_
      refine AllReadyH.cons (o := { dst := some 82, op := Op.call { callee := Callee.builtin Builtin.append, args := #[Operand.tmp 68, Operand.tmp 81], argTypes := #[44, 44] }, type := 44, pos := "ref.go:153", after := #[{ on := 4, ground := Ground.data }, { on := 17, ground := Ground.data }], guard := none }) rfl (fun K hK => ?_) AllReadyH.nil
      (refine step_app ECl rfl (.tmp 68) (.tmp 81) rfl base (.slice pc rn cc) rn (S.calls.flatMap Cl.cells) rfl (HP7.out.alloc _) _ 1 1 (Cl.cells ⟨(k : Nat), ak.kind, ak.key, ak.value, (S.steps : Nat), -1, 0, 0⟩) rfl rfl (row_newAt _ _ _ _ rfl) (cl_ones2 _) (by unfold maxLen; omega) (by omega) (by simp; omega) ?_); intro vp' w8 ho8 hg8 hs8; obtain ⟨p8, c8, rfl, -⟩ := own_shape ho8; have HO8 := hid ho8; have HG8 := hid hg8; have HT8 := hid hs8; clear ho8 hg8 hs8; obtain ⟨hh8, ha8⟩ := HK8.out _ _ HG8.out; have HH8 := hid hh8; have HA8 := hid ha8; have z6 := cell_of_row _ _ 6 _ _ _ hh8; have zf6 := frozen_of_row _ _ 6 _ _ hh8; have z7 := cell_of_row _ _ 7 _ _ _ hh8; have z8 : w8.cell? ⟨r, 7, none⟩ = some (.int .i64 (S.steps : Nat)) := z7.trans (by rw [HCS.out.1]; rfl); have Z8 := hid z8; clear hh8 ha8 z7 z8; refine hK.out _ _ ⟨HA8.out, Z8.out⟩ (fun hHeld => ?_)
      clear hK K
      try simp only [Act.put, List.setIfInBounds_toArray, List.set_cons_zero, List.set_cons_succ]
      refine wpAnyH_take (i := 19) (oi := { dst := some 83, op := Op.nilCheck (Operand.tmp 64), type := 0, pos := "ref.go:153", after := #[{ on := 0, ground := Ground.data }, { on := 0, ground := Ground.phase }, { on := 1, ground := Ground.phase }, { on := 2, ground := Ground.phase }, { on := 3, ground := Ground.phase }, { on := 4, ground := Ground.phase }, { on := 5, ground := Ground.phase }, { on := 6, ground := Ground.phase }, { on := 7, ground := Ground.phase }, { on := 8, ground := Ground.phase }, { on := 9, ground := Ground.phase }, { on := 10, ground := Ground.phase }, { on := 11, ground := Ground.phase }, { on := 12, ground := Ground.phase }, { on := 13, ground := Ground.phase }, { on := 14, ground := Ground.phase }, { on := 15, ground := Ground.phase }, { on := 16, ground := Ground.phase }, { on := 17, ground := Ground.phase }, { on := 18, ground := Ground.phase }], guard := none }) (v := ?s0bv19) rfl (by kernel_rfl) (by kernel_rfl) (by kernel_rfl) (fun _ _ _ h => h) (Or.inl ⟨by rfl, ?s0bh19⟩) (by assumption) ?s0br19
      case s0bh19 => ((intro w hSw; (try dsimp only at hSw); go_simp); try with_reducible rfl)
      try simp only [Act.put, List.setIfInBounds_toArray, List.set_cons_zero, List.set_cons_succ]
      refine wpAnyH_take (i := 20) (oi := { dst := some 84, op := Op.fieldAddr 84 (Operand.tmp 83) 6, type := 0, pos := "ref.go:153", after := #[{ on := 19, ground := Ground.data }, { on := 0, ground := Ground.phase }, { on := 1, ground := Ground.phase }, { on := 2, ground := Ground.phase }, { on := 3, ground := Ground.phase }, { on := 4, ground := Ground.phase }, { on := 5, ground := Ground.phase }, { on := 6, ground := Ground.phase }, { on := 7, ground := Ground.phase }, { on := 8, ground := Ground.phase }, { on := 9, ground := Ground.phase }, { on := 10, ground := Ground.phase }, { on := 11, ground := Ground.phase }, { on := 12, ground := Ground.phase }, { on := 13, ground := Ground.phase }, { on := 14, ground := Ground.phase }, { on := 15, ground := Ground.phase }, { on := 16, ground := Ground.phase }, { on := 17, ground := Ground.phase }, { on := 18, ground := Ground.phase }], guard := none }) (v := ?s0bv20) rfl (by kernel_rfl) (by kernel_rfl) (by kernel_rfl) (fun _ _ _ h => h) (Or.inl ⟨by rfl, ?s0bh20⟩) (by assumption) ?s0br20
      case s0bh20 => ((intro w hSw; (try dsimp only at hSw); go_simp); try with_reducible rfl)
      try simp only [Act.put, List.setIfInBounds_toArray, List.set_cons_zero, List.set_cons_succ]
      refine wpAnyH_ready (rs := [21]) (by kernel_rfl) (by simp) ?_
      refine AllReadyH.cons (o := { dst := none, op := Op.store 44 (Operand.tmp 84) (Operand.tmp 82), type := 0, pos := "ref.go:153", after := #[{ on := 20, ground := Ground.data }, { on := 18, ground := Ground.data }, { on := 18, ground := Ground.chain }, { on := 0, ground := Ground.phase }, { on := 1, ground := Ground.phase }, { on := 2, ground := Ground.phase }, { on := 3, ground := Ground.phase }, { on := 4, ground := Ground.phase }, { on := 5, ground := Ground.phase }, { on := 6, ground := Ground.phase }, { on := 7, ground := Ground.phase }, { on := 8, ground := Ground.phase }, { on := 9, ground := Ground.phase }, { on := 10, ground := Ground.phase }, { on := 11, ground := Ground.phase }, { on := 12, ground := Ground.phase }, { on := 13, ground := Ground.phase }, { on := 14, ground := Ground.phase }, { on := 15, ground := Ground.phase }, { on := 16, ground := Ground.phase }, { on := 17, ground := Ground.phase }, { on := 18, ground := Ground.phase }], guard := none }) rfl (fun K hK => ?_) AllReadyH.nil
      go_simp; refine hK.out _ _ ⟨(heap_setCell_other _ _ _ _ hb2r).trans HA8.out, (cell_of_row _ _ 7 _ _ _ (heap_setCell_same _ _ 6 _ _ _ HH8.out)).trans (by rw [HCS.out.1]; rfl)⟩ (fun hHeld => ?_)
      clear hK K
      try simp only [Act.put, List.setIfInBounds_toArray, List.set_cons_zero, List.set_cons_succ]
      refine wpAnyH_done (by kernel_rfl) ?_ _
      go_wp2_with fail
      go_meet
      exact ⟨rfl, HFIN.out _ _ _ HO8.out HG8.out HT8.out⟩
    case rest =>
      obtain ⟨rfl, v', h7, ha7, hbut7, hbel7, hv7⟩ := hcut
      obtain ⟨S7, hS7⟩ : ∃ S7 : Sh, S7 = { S1 with calls := S1.calls ++ [⟨k, ak.kind, ak.key, ak.value, S1.steps, -1, 0, 0⟩] } := ⟨_, rfl⟩
      rw [← hS7] at h7
      have hst7 : S7.steps = S.steps := by rw [hS7, HCS.out.1]
      have hl7 : S7.locks = S.locks := by rw [hS7, HCS.out.1]
      have hh7 : S7.hands = S.hands.set k ⟨(S.hand k).at_, (S.hand k).found, rn⟩ := by rw [hS7, HCS.out.1]
      have hhd : S7.hand k = ⟨(S.hand k).at_, (S.hand k).found, rn⟩ := by unfold Sh.hand; rw [hh7, getD_set _ _ hkl, if_pos rfl]; rfl
      have hkey := HK.keys k _ (ask_mem HNX.out)
      rw [HAK.out] at hkey
      have HO := hid (fun (w1 : World) => rof2_any ak.key (K.shards : Nat) w1 (by omega) (by have := HK.sh; omega))
      rw [← HK.ofs] at HO
      obtain ⟨c0, c1, -, -, -, -, -, c7⟩ := h7.cells
      have cl0 := h7.lockAt (TabIs.shLt HK ak.key)
      have fl0 : wc.frozen? ⟨B.bl, K.of ak.key, none⟩ = false := frozen_of_row _ _ _ _ _ h7.locks
      have fh0 : wc.frozen? ⟨B.bh, k * 3, none⟩ = false := frozen_of_row _ _ _ _ _ h7.hands
      have fr7 : wc.frozen? ⟨r, 7, none⟩ = false := frozen_of_row _ _ _ _ _ h7.head
      obtain ⟨f0, -, -⟩ := h7.handAt hk
      have f0' : wc.cell? ⟨B.bh, k * 3, none⟩ = some (.int .i64 ((S7.hand k).at_ : Nat)) := f0
      rw [hst7] at c7
      have a1 := cell_of_row _ _ 1 _ _ _ ha7
      simp only [List.getElem?_toArray, List.getElem?_cons_zero, List.getElem?_cons_succ] at a1
      have hsh : (K.of ak.key : Int) < K.shards := by have := TabIs.shLt HK ak.key; omega
      obtain ⟨lr, -, -, -⟩ := h7.lt
      have hb2l7 : b2 < wc.heap.size := (Array.getElem?_eq_some_iff.1 ha7).1
      have g0 : ∀ w' : World, But (fun b => b = B.bl) wc w' → w'.cell? ⟨r, 0, none⟩ = some (.int .i64 K.shards) := fun w' hs => (World.cell?_of_block (a := ⟨r, 0, none⟩) (hs.keep r lr hrl2)).trans c0
      have g1 : ∀ w' : World, But (fun b => b = B.bl) wc w' → w'.cell? ⟨r, 1, none⟩ = some (.slice (some ⟨B.bl, 0, none⟩) K.shards K.shards) := fun w' hs => (World.cell?_of_block (a := ⟨r, 1, none⟩) (hs.keep r lr hrl2)).trans c1
      have ga : ∀ w' : World, But (fun b => b = B.bl) wc w' → w'.cell? ⟨b2, 1, none⟩ = some (.string ak.key) := fun w' hs => (World.cell?_of_block (a := ⟨b2, 1, none⟩) (hs.keep b2 hb2l7 hb2l)).trans a1
      have HS0 : Hid (But (fun b => b = B.bl) wc wc) := But.refl wc
      have HFN2 : Hid (RStep W base r K B S2 (.returned (.tuple #[])) (((wc.setCell ⟨B.bl, K.of ak.key, none⟩ (.int .i64 (k : Nat))).setCell ⟨B.bh, k * 3, none⟩ (.int .i64 1)).setCell ⟨r, 7, none⟩ (.int .i64 ((S.steps : Nat) + 1))).drew) := by
        have s1 := h7.setLock (K.of ak.key) (k : Nat)
        have hkl7 : k < S7.hands.length := by rw [hh7, List.length_set]; exact hkl
        have s2 := s1.setHand k hkl7 0 (by omega) (.int .i64 1) ⟨1, false, rn⟩ (by
          show _ = (S7.hand k).cells.set 0 _
          rw [hhd, hid0 k hx]; rfl)
        have s3 := (s2.setSteps (S.steps + 1)).below (Below.refl _ _).drew
        have e : ((S.steps + 1 : Nat) : Int) = (S.steps : Int) + 1 := by omega
        rw [e] at s3
        have hc2 : S2 = { S7 with locks := S7.locks.set (K.of ak.key) (k : Nat), hands := S7.hands.set k ⟨1, false, rn⟩, steps := S.steps + 1 } := by
          rw [HS2.out, hl7, hh7, setIdem, hS7, HCS.out.1]
          unfold Sh.setH Sh.setL
          have ea : ∀ cs : List Cl, ({ S with calls := cs } : Sh).ask K k = ak := fun _ => HAK.out
          rw [ea]
        refine ⟨rfl, { B with vc := v' }, by rw [hc2]; exact s3, fun b hb => ?_, (((hbut7.setCell _ _ (.inr (.inl rfl))).setCell _ _ (.inr (.inr (.inr (.inl rfl))))).setCell _ _ (.inl rfl)).drew, (((hbel7.setCell h7.ge.2.1 _).setCell h7.ge.2.2.2 _).setCell h7.ge.1 _).drew⟩
        rcases hb with hb | hb | hb | hb | hb | hb
        · exact .inl (.inl hb)
        · exact .inl (.inr (.inl hb))
        · exact .inl (.inr (.inr (.inl hb)))
        · exact .inl (.inr (.inr (.inr (.inl hb))))
        · exact .inl (.inr (.inr (.inr (.inr (.inl hb)))))
        · rcases hv7 b hb with e | e
          · exact .inl (.inr (.inr (.inr (.inr (.inr e)))))
          · exact .inr e
      obtain ⟨cl, hcl⟩ : ∃ cl, cl = K.of ak.key := ⟨_, rfl⟩
      rw [← hcl] at HO cl0 fl0 hsh HFN2
      clear h7 hS7 hst7 hl7 hh7 hhd ha7 hbut7 hbel7 hv7 c0 c1 a1 f0 HS2 hcl HAK
      go_upto_region 8 with fail
      go_region_held3 (fun w' : World => But (fun b => b = B.bl) wc w') (first | (with_reducible assumption) | (with_reducible exact HS0.out) | (with_reducible exact HS0.out.drew) | (with_reducible exact (HS0.out.setCell _ _ rfl)) | (with_reducible exact (HS0.out.setCell _ _ rfl).drew) | (with_reducible exact (HS0.out.drew.setCell _ _ rfl))) (first | (go_at_call 11; with_reducible refine (HO.out _).mono ?_; rintro e w' ⟨rfl, rfl⟩))
      all_goals
        go_wp2_with fail
        refine bodyPost_end (v := .tuple #[]) (by simp [results, Try.results21, go_sem]) rfl ?_
        exact HFN2.out
end Go.Proofs.Ytabkmdhkfbcldaa
