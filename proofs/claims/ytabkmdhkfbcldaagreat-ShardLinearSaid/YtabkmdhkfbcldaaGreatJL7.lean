/-
 Step: the walk, state 1.
 Step: the walk, states 2 and 3.
-/
import Derived.Test.YtabkmdhkfbcldaaGreatJL6
namespace Go.Proofs.YtabkmdhkfbcldaaGreat
open Go.RowKit
variable {W W' : World} {base t : Nat} {K : Wk} {S : Sh} {B : TB}
set_option maxRecDepth 20000 in
set_option maxHeartbeats 2000000 in
theorem step1_any (H : TOk W base t K S B) (HK : WkOk K) (k : Nat) (hk : k < K.work.length) (hcan : S.canN K k = true) (hx : (S.hand k).at_ = 1) (hst : S.steps ≤ 1000000) (hsz : (K.own k).length ≤ 1000000) :
  Calls Tryz.prog 7 #[.pointer (some ⟨t, 0, none⟩), .int .i64 (k : Nat)] W (TStep W base t K B (S.stepN K k)) := by
 have HTO := hid H
 have hn := H.ok.nx hk (can_facts hcan).1
 have hp : B.pr k = true := by
  cases e : B.pr k with
  | true => rfl
  | false => have := (H.is.free k e).2; omega
 have HD := hid (done_any H.is (k : Int))
 have hdf : S.doneI K (k : Int) = false := by
  unfold Sh.doneI
  rw [Int.toNat_natCast, (can_facts hcan).1]
  simp; omega
 have HW := hid (fun (w1 : World) (hb : Below W.heap.size W w1) => twaits_any (H.is.below hb) HK (k : Int))
 have hwf : S.waitsI K (k : Int) = false := by unfold Sh.waitsI; rw [Int.toNat_natCast, (can_facts hcan).2, hdf]; rfl
 rw [hwf] at HW
 rw [hdf] at HD
 have HA := hid (fun (w1 : World) (hb : Below W.heap.size W w1) => ask_any (H.is.below hb) k hk hn)
 have HM := hid (fun (w1 : World) (hb : Below W.heap.size W w1) => H.is.hands.below hb H.is.hands.lt)
 have HL := hid (H.is.hand k hp).1
 have HZ := hid (fun w1 : World => (show (zeroValue 68).run Tryz.prog w1 = .ok (.pointer none) w1 by kernel_rfl))
 have hlt := (Array.getElem?_eq_some_iff.1 H.is.head).1
 obtain ⟨c0, c1, c2, c3, c4, c5, c6, c7, c8⟩ := tab_cells H.is.head
 have g4 : ∀ w', Below W.heap.size W w' → w'.cell? ⟨t, 4, none⟩ = some (.map (some B.bh)) := fun w' hb => (hb.cell (p := ⟨t, 4, none⟩) hlt).trans c4
 have HG4 := hid g4
 generalize hak : S.ask K k = ak at HA
 have HAK := hid hak
 clear hak hdf hwf c0 c1 c2 c3 c4 c5 c6 c7 c8 H g4
 go_enter Tryz.func7, Tryz.ntmps7
 go_upto_region 3 with (first
  | (go_at_call 17; (with_reducible refine HD.out.mono ?_); rintro e w1 ⟨rfl, q1, rfl⟩)
  | (go_at_call 23; (with_reducible refine (HW.out _ (below_drewN (Below.refl _ _) q1)).mono ?_); rintro e w2 ⟨rfl, hb2⟩; have HB2 := hid (below_more hb2 (below_drewN (Below.refl _ _) q1) (Nat.le_refl _)); clear hb2; have G4 := HG4.out w2 HB2.out)
  | ((with_reducible show wpList _ _ _ (⟨some 19, _, _, _, _, _⟩ :: _) _ _); refine wpList_maplook KInt Tryz.underlying53 rfl (.tmp 17) (.tmp 18) false rfl (.pointer none) (HZ.out _) B.bh B.hm rfl (HM.out _ HB2.out) (k : Int) rfl ?_; rw [HL.out]))
 have HW2 : Hid (Below W.heap.size W w2) := HB2.out
 have g4 := HG4.out
 have hlk : ∀ w', Below W.heap.size W w' → (Instr.lookup 53 (.map (some B.bh)) (.int .i64 (k : Nat)) false).run Tryz.prog w' = .ok (.pointer (some ⟨B.hb k, 0, none⟩)) w' := fun w' hb => by
  have hr := (HM.out w' hb).run_lookup KInt Tryz.underlying53 (HZ.out w') (k : Int) false
  rw [HL.out] at hr
  exact hr
 go_cut [4, 5] (fun v c wx => AkV W ak v wx ∧ c = .pointer (some ⟨B.hb k, 0, none⟩))
 case first =>
  refine wp_region_held_drew (S := fun w' => Below W.heap.size W w') (by kernel_rfl) HW2.out.drew (fun hHeld => ?_)
  refine wpAnyH_take (i := 0) (oi := { dst := some 24, op := Op.move (Operand.tmp 0), type := 26, pos := "shard.go:177", after := #[], guard := none }) (v := ?sav0) rfl (by kernel_rfl) (by kernel_rfl) (by kernel_rfl) (fun _ _ _ h => h) (Or.inl ⟨by rfl, ?sah0⟩) (by assumption) ?sar0
  case sah0 => ((intro w hSw; (try dsimp only at hSw); go_simp); try with_reducible rfl)
  try simp only [Act.put, List.setIfInBounds_toArray, List.set_cons_zero, List.set_cons_succ]
  refine wpAnyH_take (i := 1) (oi := { dst := some 25, op := Op.move (Operand.tmp 1), type := 3, pos := "shard.go:177", after := #[], guard := none }) (v := ?sav1) rfl (by kernel_rfl) (by kernel_rfl) (by kernel_rfl) (fun _ _ _ h => h) (Or.inl ⟨by rfl, ?sah1⟩) (by assumption) ?sar1
  case sah1 => ((intro w hSw; (try dsimp only at hSw); go_simp); try with_reducible rfl)
  try simp only [Act.put, List.setIfInBounds_toArray, List.set_cons_zero, List.set_cons_succ]
  refine wpAnyH_take (i := 3) (oi := { dst := some 27, op := Op.move (Operand.tmp 0), type := 26, pos := "shard.go:177", after := #[{ on := 10, ground := Ground.gcOnly Departure.lateStores }], guard := none }) (v := ?sav3) rfl (by kernel_rfl) (by kernel_rfl) (by kernel_rfl) (fun _ _ _ h => h) (Or.inl ⟨by rfl, ?sah3⟩) (by assumption) ?sar3
  case sah3 => ((intro w hSw; (try dsimp only at hSw); go_simp); try with_reducible rfl)
  try simp only [Act.put, List.setIfInBounds_toArray, List.set_cons_zero, List.set_cons_succ]
  refine wpAnyH_take (i := 4) (oi := { dst := some 28, op := Op.nilCheck (Operand.tmp 27), type := 0, pos := "shard.go:177", after := #[{ on := 3, ground := Ground.data }, { on := 10, ground := Ground.gcOnly Departure.lateStores }], guard := none }) (v := ?sav4) rfl (by kernel_rfl) (by kernel_rfl) (by kernel_rfl) (fun _ _ _ h => h) (Or.inl ⟨by rfl, ?sah4⟩) (by assumption) ?sar4
  case sah4 => ((intro w hSw; (try dsimp only at hSw); go_simp); try with_reducible rfl)
  try simp only [Act.put, List.setIfInBounds_toArray, List.set_cons_zero, List.set_cons_succ]
  refine wpAnyH_take (i := 5) (oi := { dst := some 29, op := Op.fieldAddr 58 (Operand.tmp 28) 4, type := 0, pos := "shard.go:177", after := #[{ on := 4, ground := Ground.data }, { on := 10, ground := Ground.gcOnly Departure.lateStores }], guard := none }) (v := ?sav5) rfl (by kernel_rfl) (by kernel_rfl) (by kernel_rfl) (fun _ _ _ h => h) (Or.inl ⟨by rfl, ?sah5⟩) (by assumption) ?sar5
  case sah5 => ((intro w hSw; (try dsimp only at hSw); go_simp); try with_reducible rfl)
  try simp only [Act.put, List.setIfInBounds_toArray, List.set_cons_zero, List.set_cons_succ]
  refine wpAnyH_take (i := 6) (oi := { dst := some 30, op := Op.load 53 (Operand.tmp 29), type := 53, pos := "shard.go:177", after := #[{ on := 5, ground := Ground.data }, { on := 10, ground := Ground.gcOnly Departure.lateStores }], guard := none }) (v := ?sav6) rfl (by kernel_rfl) (by kernel_rfl) (by kernel_rfl) (fun _ _ _ h => h) (Or.inl ⟨by rfl, ?sah6⟩) (by assumption) ?sar6
  case sah6 => ((intro w hSw; (try dsimp only at hSw); go_simp); try with_reducible rfl)
  try simp only [Act.put, List.setIfInBounds_toArray, List.set_cons_zero, List.set_cons_succ]
  refine wpAnyH_take (i := 7) (oi := { dst := some 31, op := Op.move (Operand.tmp 1), type := 3, pos := "shard.go:177", after := #[{ on := 10, ground := Ground.gcOnly Departure.lateStores }], guard := none }) (v := ?sav7) rfl (by kernel_rfl) (by kernel_rfl) (by kernel_rfl) (fun _ _ _ h => h) (Or.inl ⟨by rfl, ?sah7⟩) (by assumption) ?sar7
  case sah7 => ((intro w hSw; (try dsimp only at hSw); go_simp); try with_reducible rfl)
  try simp only [Act.put, List.setIfInBounds_toArray, List.set_cons_zero, List.set_cons_succ]
  refine wpAnyH_take (i := 8) (oi := { dst := some 32, op := Op.lookup 53 (Operand.tmp 30) (Operand.tmp 31) false, type := 68, pos := "shard.go:177", after := #[{ on := 6, ground := Ground.data }, { on := 7, ground := Ground.data }, { on := 10, ground := Ground.gcOnly Departure.lateStores }], guard := none }) (v := ?sav8) rfl (by kernel_rfl) (by kernel_rfl) (by kernel_rfl) (fun _ _ _ h => h) (Or.inl ⟨by rfl, ?sah8⟩) (by assumption) ?sar8
  case sah8 => ((intro w hSw; (try dsimp only at hSw); go_simp); try with_reducible rfl)
  try simp only [Act.put, List.setIfInBounds_toArray, List.set_cons_zero, List.set_cons_succ]
  refine wpAnyH_ready (rs := [2, 9]) (by kernel_rfl) (by simp) ?_
  refine AllReadyH.cons (o := { dst := some 26, op := Op.call { callee := Callee.value (Operand.func 25), args := #[Operand.tmp 24, Operand.tmp 25], argTypes := #[26, 3] }, type := 46, pos := "shard.go:177", after := #[{ on := 0, ground := Ground.data }, { on := 1, ground := Ground.data }], guard := none }) rfl (fun K hK => ?_) ?_
  ·go_simp
   go_at_call 25; (with_reducible refine (HA.out _ (by first | exact HW2.out.drew | exact (HW2.out.alloc HW2.out.size _).drew)).mono ?_); rintro e w3 ⟨rfl, hb3⟩; have hq3 : Below W.heap.size W w3 := below_more hb3 (by first | exact HW2.out.drew | exact (HW2.out.alloc HW2.out.size _).drew) (Nat.le_refl _); try (have hblk := (hb3.block w2.heap.size (by simp)).trans (heap_alloc_new w2 _); have f0 := frozen_of_row _ _ 0 _ _ hblk; have f1 := frozen_of_row _ _ 1 _ _ hblk; have f2 := frozen_of_row _ _ 2 _ _ hblk; have z0 := cell_of_row _ _ 0 _ _ _ hblk; have z1 := cell_of_row _ _ 1 _ _ _ hblk; have z2 := cell_of_row _ _ 2 _ _ _ hblk; have HBLK := hid hblk; clear hblk); clear hb3
   refine hK.out _ _ (by assumption) (fun hHeld => ?_)
   clear hK K
   try simp only [Act.put, List.setIfInBounds_toArray, List.set_cons_zero, List.set_cons_succ]
   refine wpAnyH_ready (rs := [9]) (by kernel_rfl) (by simp) ?_
   refine AllReadyH.cons (o := { dst := some 4, op := Op.alloc 46, type := 0, pos := "shard.go:177", after := #[], guard := none }) rfl (fun K hK => ?_) AllReadyH.nil
   go_simp; refine hK.out _ _ (by first | exact (HW2.out.alloc HW2.out.size _).drew | exact hq3.alloc hq3.size _) (fun hHeld => ?_)
   clear hK K
   try simp only [Act.put, List.setIfInBounds_toArray, List.set_cons_zero, List.set_cons_succ]
   refine wpAnyH_ready (rs := [10]) (by kernel_rfl) (by simp) ?_
   refine AllReadyH.cons (o := { dst := none, op := Op.store 46 (Operand.tmp 4) (Operand.tmp 26), type := 0, pos := "shard.go:177", after := #[{ on := 9, ground := Ground.data }, { on := 2, ground := Ground.data }, { on := 2, ground := Ground.chain }, { on := 0, ground := Ground.phase }, { on := 1, ground := Ground.phase }, { on := 2, ground := Ground.phase }, { on := 3, ground := Ground.textOnly Departure.lateStores }, { on := 4, ground := Ground.textOnly Departure.lateStores }, { on := 5, ground := Ground.textOnly Departure.lateStores }, { on := 6, ground := Ground.textOnly Departure.lateStores }, { on := 7, ground := Ground.textOnly Departure.lateStores }, { on := 8, ground := Ground.textOnly Departure.lateStores }, { on := 9, ground := Ground.phase }], guard := none }) rfl (fun K hK => ?_) AllReadyH.nil
   go_simp; refine hK.out _ _ (by first | exact hq3.alloc hq3.size _ | exact ((hq3.setCell HW2.out.size _).setCell HW2.out.size _).setCell HW2.out.size _) (fun hHeld => ?_)
   clear hK K
   try simp only [Act.put, List.setIfInBounds_toArray, List.set_cons_zero, List.set_cons_succ]
   refine wpAnyH_take (i := 11) (oi := { dst := some 5, op := Op.assign (Operand.tmp 32), type := 68, pos := "shard.go:177", after := #[{ on := 8, ground := Ground.data }, { on := 10, ground := Ground.chain }, { on := 0, ground := Ground.phase }, { on := 1, ground := Ground.phase }, { on := 2, ground := Ground.phase }, { on := 3, ground := Ground.phase }, { on := 4, ground := Ground.phase }, { on := 5, ground := Ground.phase }, { on := 6, ground := Ground.phase }, { on := 7, ground := Ground.phase }, { on := 8, ground := Ground.phase }, { on := 9, ground := Ground.phase }, { on := 10, ground := Ground.phase }], guard := none }) (v := ?saav11) rfl (by kernel_rfl) (by kernel_rfl) (by kernel_rfl) (fun _ _ _ h => h) (Or.inl ⟨by rfl, ?saah11⟩) (by assumption) ?saar11
   case saah11 => ((intro w hSw; (try dsimp only at hSw); go_simp); try with_reducible rfl)
   try simp only [Act.put, List.setIfInBounds_toArray, List.set_cons_zero, List.set_cons_succ]
   refine wpAnyH_done (by kernel_rfl) ?_ _
   go_wp2_with fail
   go_meet
   first | exact ⟨⟨_, rfl, hq3.size, heap_alloc_new w3 _, hq3.alloc hq3.size _⟩, rfl⟩ | exact ⟨⟨_, rfl, HW2.out.size, heap_setCell_same _ _ 2 _ _ _ (heap_setCell_same _ _ 1 _ _ _ (heap_setCell_same _ _ 0 _ _ _ HBLK.out)), ((hq3.setCell HW2.out.size _).setCell HW2.out.size _).setCell HW2.out.size _⟩, rfl⟩
  refine AllReadyH.cons (o := { dst := some 4, op := Op.alloc 46, type := 0, pos := "shard.go:177", after := #[], guard := none }) rfl (fun K hK => ?_) AllReadyH.nil
  go_simp; refine hK.out _ _ (by first | exact (HW2.out.alloc HW2.out.size _).drew | exact hq3.alloc hq3.size _) (fun hHeld => ?_)
  clear hK K
  try simp only [Act.put, List.setIfInBounds_toArray, List.set_cons_zero, List.set_cons_succ]
  refine wpAnyH_ready (rs := [2]) (by kernel_rfl) (by simp) ?_
  refine AllReadyH.cons (o := { dst := some 26, op := Op.call { callee := Callee.value (Operand.func 25), args := #[Operand.tmp 24, Operand.tmp 25], argTypes := #[26, 3] }, type := 46, pos := "shard.go:177", after := #[{ on := 0, ground := Ground.data }, { on := 1, ground := Ground.data }], guard := none }) rfl (fun K hK => ?_) AllReadyH.nil
  go_simp
  go_at_call 25; (with_reducible refine (HA.out _ (by first | exact HW2.out.drew | exact (HW2.out.alloc HW2.out.size _).drew)).mono ?_); rintro e w3 ⟨rfl, hb3⟩; have hq3 : Below W.heap.size W w3 := below_more hb3 (by first | exact HW2.out.drew | exact (HW2.out.alloc HW2.out.size _).drew) (Nat.le_refl _); try (have hblk := (hb3.block w2.heap.size (by simp)).trans (heap_alloc_new w2 _); have f0 := frozen_of_row _ _ 0 _ _ hblk; have f1 := frozen_of_row _ _ 1 _ _ hblk; have f2 := frozen_of_row _ _ 2 _ _ hblk; have z0 := cell_of_row _ _ 0 _ _ _ hblk; have z1 := cell_of_row _ _ 1 _ _ _ hblk; have z2 := cell_of_row _ _ 2 _ _ _ hblk; have HBLK := hid hblk; clear hblk); clear hb3
  refine hK.out _ _ (by assumption) (fun hHeld => ?_)
  clear hK K
  try simp only [Act.put, List.setIfInBounds_toArray, List.set_cons_zero, List.set_cons_succ]
  refine wpAnyH_ready (rs := [10]) (by kernel_rfl) (by simp) ?_
  refine AllReadyH.cons (o := { dst := none, op := Op.store 46 (Operand.tmp 4) (Operand.tmp 26), type := 0, pos := "shard.go:177", after := #[{ on := 9, ground := Ground.data }, { on := 2, ground := Ground.data }, { on := 2, ground := Ground.chain }, { on := 0, ground := Ground.phase }, { on := 1, ground := Ground.phase }, { on := 2, ground := Ground.phase }, { on := 3, ground := Ground.textOnly Departure.lateStores }, { on := 4, ground := Ground.textOnly Departure.lateStores }, { on := 5, ground := Ground.textOnly Departure.lateStores }, { on := 6, ground := Ground.textOnly Departure.lateStores }, { on := 7, ground := Ground.textOnly Departure.lateStores }, { on := 8, ground := Ground.textOnly Departure.lateStores }, { on := 9, ground := Ground.phase }], guard := none }) rfl (fun K hK => ?_) AllReadyH.nil
  go_simp; refine hK.out _ _ (by first | exact hq3.alloc hq3.size _ | exact ((hq3.setCell HW2.out.size _).setCell HW2.out.size _).setCell HW2.out.size _) (fun hHeld => ?_)
  clear hK K
  try simp only [Act.put, List.setIfInBounds_toArray, List.set_cons_zero, List.set_cons_succ]
  refine wpAnyH_take (i := 11) (oi := { dst := some 5, op := Op.assign (Operand.tmp 32), type := 68, pos := "shard.go:177", after := #[{ on := 8, ground := Ground.data }, { on := 10, ground := Ground.chain }, { on := 0, ground := Ground.phase }, { on := 1, ground := Ground.phase }, { on := 2, ground := Ground.phase }, { on := 3, ground := Ground.phase }, { on := 4, ground := Ground.phase }, { on := 5, ground := Ground.phase }, { on := 6, ground := Ground.phase }, { on := 7, ground := Ground.phase }, { on := 8, ground := Ground.phase }, { on := 9, ground := Ground.phase }, { on := 10, ground := Ground.phase }], guard := none }) (v := ?sabv11) rfl (by kernel_rfl) (by kernel_rfl) (by kernel_rfl) (fun _ _ _ h => h) (Or.inl ⟨by rfl, ?sabh11⟩) (by assumption) ?sabr11
  case sabh11 => ((intro w hSw; (try dsimp only at hSw); go_simp); try with_reducible rfl)
  try simp only [Act.put, List.setIfInBounds_toArray, List.set_cons_zero, List.set_cons_succ]
  refine wpAnyH_done (by kernel_rfl) ?_ _
  go_wp2_with fail
  go_meet
  first | exact ⟨⟨_, rfl, hq3.size, heap_alloc_new w3 _, hq3.alloc hq3.size _⟩, rfl⟩ | exact ⟨⟨_, rfl, HW2.out.size, heap_setCell_same _ _ 2 _ _ _ (heap_setCell_same _ _ 1 _ _ _ (heap_setCell_same _ _ 0 _ _ _ HBLK.out)), ((hq3.setCell HW2.out.size _).setCell HW2.out.size _).setCell HW2.out.size _⟩, rfl⟩
 case rest =>
  obtain ⟨⟨b, rfl, hbz, hbb, hbc⟩, rfl⟩ := hcut
  clear hlk g4
  have HBC := hid hbc
  have HBB := hid hbb
  have hT := HTO.out.is.below hbc
  have htb : t ≠ b := by have := hlt; omega
  have hh1 := hT.head
  obtain ⟨c0, c1, c2, c3, c4, c5, c6, c7, c8⟩ := tab_cells hh1
  have cf8 := frozen_of_row _ _ 8 _ _ hh1
  have HT := hid hT
  clear c0 c1 c2 c3 c4 c5 c6 c7 hh1 hbc hbb hT
  go_upto_region 5 with fail
  obtain ⟨W4, hW4⟩ : ∃ W4, W4 = wc.setCell ⟨t, 8, none⟩ (.int .i64 ((S.steps : Nat) + 1)) := ⟨_, rfl⟩
  rw [← hW4]
  have HO4 : Hid (∀ j, j ≠ t → W4.heap[j]? = wc.heap[j]?) := fun j hj => by rw [hW4]; exact heap_setCell_other _ _ _ _ hj
  have HH4 : Hid (W4.heap[t]? = some (tabO B K (S.steps + 1))) := by
   rw [hW4]
   have e := heap_setCell_same wc t 8 _ _ (.int .i64 ((S.steps : Nat) + 1)) HT.out.head
   have e2 : ((S.steps + 1 : Nat) : Int) = (S.steps : Int) + 1 := by omega
   unfold tabO
   rw [e2]
   exact e
  have HZ4 : Hid (W4.heap.size = wc.heap.size) := by rw [hW4]; simp [Hid]
  have HB4 : Hid (Below base wc W4) := by rw [hW4]; exact (Below.refl _ _).setCell (HTO.out.is.ap t (.inl rfl)).2.1 _
  clear hW4 c8 cf8
  have hgt : B.hb k ≠ t := tag_ne (HT.out.tagHand k hp) HT.out.tagT (by decide)
  have hG4 : W4.heap[B.hb k]? = some (handO (S.hand k) (B.hv k)) := (HO4.out _ hgt).trans (HT.out.hand k hp).2
  have hA4 : W4.heap[b]? = some (.cells #[.int .i64 ak.kind, .string ak.key, .int .i64 ak.value] 46 (0, 0)) := (HO4.out _ (Ne.symm htb)).trans HBB.out
  have hgb : b ≠ B.hb k := by have := (HTO.out.is.ap _ (.inr (.inr (.inr (.inr (.inr (.inr (.inr (.inr ⟨k, hp, rfl⟩))))))))).2.2; omega
  have q1 : W4.cell? ⟨B.hb k, 1, none⟩ = some (.int .i64 ((S.hand k).at_ : Nat)) := cell_of_row _ _ 1 _ _ _ hG4
  rw [hx] at q1
  have HG4' := hid hG4
  have HA4 := hid hA4
  have hbeg : base ≤ B.hb k := (HTO.out.is.ap _ (.inr (.inr (.inr (.inr (.inr (.inr (.inr (.inr ⟨k, hp, rfl⟩))))))))).2.1
  have HV4 : Hid (MapIs Value.string (Value.int .i64) W4 B.bv B.vm) := by
   obtain ⟨es, c, he, F⟩ := HT.out.vals
   exact ⟨es, c, (HO4.out _ (tag_ne (map_tag HT.out.vals) HT.out.tagT (by decide))).trans he, F⟩
  have HD4 : Hid (MapIs Value.string Value.bool W4 B.bt B.tm) := by
   obtain ⟨es, c, he, F⟩ := HT.out.told
   exact ⟨es, c, (HO4.out _ (tag_ne (map_tag HT.out.told) HT.out.tagT (by decide))).trans he, F⟩
  have hvg : B.bv ≠ B.hb k := tag_ne (map_tag HT.out.vals) (HT.out.tagHand k hp) (by decide)
  have hdg : B.bt ≠ B.hb k := tag_ne (map_tag HT.out.told) (HT.out.tagHand k hp) (by decide)
  go_upto_region 11 with fail
  have y2 : W4.cell? ⟨B.hb k, 2, none⟩ = some (.bool (S.hand k).found) := cell_of_row _ _ 2 _ _ _ hG4
  have y3 : W4.cell? ⟨B.hb k, 3, none⟩ = some (.int .i64 (B.hv k)) := cell_of_row _ _ 3 _ _ _ hG4
  have yf1 : W4.frozen? ⟨B.hb k, 1, none⟩ = false := frozen_of_row _ _ 1 _ _ hG4
  have yf2 : W4.frozen? ⟨B.hb k, 2, none⟩ = false := frozen_of_row _ _ 2 _ _ hG4
  have yf3 : W4.frozen? ⟨B.hb k, 3, none⟩ = false := frozen_of_row _ _ 3 _ _ hG4
  have a0 : ∀ w', DS W4 (B.hb k) w' → w'.cell? ⟨b, 0, none⟩ = some (.int .i64 ak.kind) := fun w' h => (h.cell hgb).trans (cell_of_row _ _ 0 _ _ _ hA4)
  have a1 : ∀ w', DS W4 (B.hb k) w' → w'.cell? ⟨b, 1, none⟩ = some (.string ak.key) := fun w' h => (h.cell hgb).trans (cell_of_row _ _ 1 _ _ _ hA4)
  have a5 : ∀ w', DS W4 (B.hb k) w' → w'.cell? ⟨t, 5, none⟩ = some (.map (some B.bv)) := fun w' h => (h.cell (Ne.symm hgt)).trans (cell_of_row W4 _ 5 _ _ _ HH4.out)
  have hlk : ∀ w', DS W4 (B.hb k) w' → (Instr.lookup 54 (.map (some B.bv)) (.string ak.key) true).run Tryz.prog w' = .ok (.tuple #[.int .i64 ((S.get ak.key).getD 0), .bool (S.get ak.key).isSome]) w' := fun w' h => by
   have hm : MapIs Value.string (Value.int .i64) w' B.bv B.vm := by
    obtain ⟨es, c, he, F⟩ := HV4.out
    exact ⟨es, c, (h.b _ hvg).trans he, F⟩
   have hr := hm.run_lookup KStr Tryz.underlying54 (show (zeroValue 2).run Tryz.prog w' = .ok (.int .i64 0) w' by kernel_rfl) ak.key true
   rw [HTO.out.is.valIs] at hr
   cases e : S.get ak.key <;> rw [e] at hr <;> exact hr
  have HFIN : Hid (∀ w' : World, DS W4 (B.hb k) w' → Below base W4 w' → w'.heap[B.hb k]? = some (handO ⟨if ak.kind = 1 ∧ S.get ak.key = none then 2 else 4, (S.get ak.key).isSome, (S.hand k).call⟩ ((S.get ak.key).getD 0)) → TStep W base t K B (S.stepN K k) (.returned (.tuple #[])) w') := fun w' hds hbel hg => by
   have hsi : S.stepN K k = S.poke k ⟨if ak.kind = 1 ∧ S.get ak.key = none then 2 else 4, (S.get ak.key).isSome, (S.hand k).call⟩ S.rows (S.steps + 1) := by
    rw [step_is hcan]; unfold Sh.body; simp only [hx, HAK.out]; rfl
   refine TStep.poked (TabIs.shLt HK) HTO.out hk hp HBC.out ⟨if ak.kind = 1 ∧ S.get ak.key = none then 2 else 4, (S.get ak.key).isSome, (S.hand k).call⟩ ((S.get ak.key).getD 0) S.rows B.vm B.tm hsi ?_ ?_ ?_ (HB4.out.trans hbel) ?_ hg ?_ HTO.out.is.valIs ?_ HTO.out.is.toldIs
   ·dsimp only; split <;> omega
   ·intro _ hf
    rw [hsi, HAK.out]
    show S.get ak.key = _
    cases e : S.get ak.key with
    | none => rw [e] at hf; cases hf
    | some v => rfl
   ·refine ⟨fun j _ hj => ?_, by rw [hds.s, HZ4.out]; exact Nat.le_refl _⟩
    exact (hds.b j (fun e => hj (.inr (.inl e)))).trans (HO4.out j (fun e => hj (.inl e)))
   ·exact (hds.b t (Ne.symm hgt)).trans HH4.out
   ·obtain ⟨es, c, he, F⟩ := HV4.out
    exact ⟨es, c, (hds.b _ hvg).trans he, F⟩
   ·obtain ⟨es, c, he, F⟩ := HD4.out
    exact ⟨es, c, (hds.b _ hdg).trans he, F⟩
  generalize hgo : S.get ak.key = go at *
  have HGO := hid hgo
  clear hgo
  clear hG4 hA4
  have hDS : DS W4 (B.hb k) W4.drew := ⟨rfl, fun _ _ => rfl⟩
  go_region_held3 (fun w' => DS W4 (B.hb k) w') (first | (with_reducible assumption) | (with_reducible ((repeat (first | refine DS.drew ?_ | refine DS.set ?_ _ _)); exact DS.refl _ _))) (first | fail)
  clear a0 a1 a5 hlk
  obtain ⟨W5, hW5⟩ : ∃ W5, W5 = ((W4.setCell ⟨B.hb k, 3, none⟩ (.int .i64 (go.getD 0))).setCell ⟨B.hb k, 2, none⟩ (.bool go.isSome)).drew := ⟨_, rfl⟩
  rw [← hW5]
  have HDS : Hid (DS W4 (B.hb k) W5) := by rw [hW5]; exact (((DS.refl W4 _).set _ _).set _ _).drew
  have HBS : Hid (Below base W4 W5) := by rw [hW5]; exact (((Below.refl _ W4).setCell hbeg _).setCell hbeg _).drew
  have hgs : W5.heap[B.hb k]? = some (.cells #[.int .i64 ((S.hand k).call : Nat), .int .i64 ((S.hand k).at_ : Nat), .bool go.isSome, .int .i64 (go.getD 0)] 71 (0, 0)) := by rw [hW5]; exact heap_setCell_same _ _ 2 _ _ _ (heap_setCell_same _ _ 3 _ _ _ HG4'.out)
  clear hW5 y2 y3 yf1 yf2 yf3
  have yb0 : W5.cell? ⟨b, 0, none⟩ = some (.int .i64 ak.kind) := (HDS.out.cell hgb).trans (cell_of_row _ _ 0 _ _ _ HA4.out)
  have y1 : W5.cell? ⟨B.hb k, 1, none⟩ = some (.int .i64 ((S.hand k).at_ : Nat)) := cell_of_row _ _ 1 _ _ _ hgs
  have y2 : W5.cell? ⟨B.hb k, 2, none⟩ = some (.bool go.isSome) := cell_of_row _ _ 2 _ _ _ hgs
  have yf1 : W5.frozen? ⟨B.hb k, 1, none⟩ = false := frozen_of_row _ _ 1 _ _ hgs
  have HGS := hid hgs
  clear hgs
  by_cases hk1 : ak.kind = 1
  ·rw [hk1] at yb0
   cases go with
   | none =>
    go_wp2_with fail
    refine bodyPost_end (v := .tuple #[]) (by simp [results, Tryz.results7, go_sem]) rfl ?_
    refine HFIN.out _ (by with_reducible first | exact HDS.out.set _ _ | exact (HDS.out.set _ _).set _ _) (by with_reducible first | exact HBS.out.setCell hbeg _ | exact (HBS.out.setCell hbeg _).setCell hbeg _) ?_
    rw [if_pos (by simp [hk1])]
    first | ((with_reducible refine (heap_setCell_same _ _ 1 _ _ _ HGS.out).trans ?_); rfl) | ((with_reducible refine (heap_setCell_same _ _ 1 _ _ _ (heap_setCell_same _ _ 1 _ _ _ HGS.out)).trans ?_); rfl)
   | some v =>
    go_wp2_with fail
    refine bodyPost_end (v := .tuple #[]) (by simp [results, Tryz.results7, go_sem]) rfl ?_
    refine HFIN.out _ (by with_reducible first | exact HDS.out.set _ _ | exact (HDS.out.set _ _).set _ _) (by with_reducible first | exact HBS.out.setCell hbeg _ | exact (HBS.out.setCell hbeg _).setCell hbeg _) ?_
    rw [if_neg (by simp)]
    first | ((with_reducible refine (heap_setCell_same _ _ 1 _ _ _ HGS.out).trans ?_); rfl) | ((with_reducible refine (heap_setCell_same _ _ 1 _ _ _ (heap_setCell_same _ _ 1 _ _ _ HGS.out)).trans ?_); rfl)
  ·have hkb : (ak.kind == 1) = false := by simpa using hk1
   have hkd : decide (ak.kind = 1) = false := by simpa using hk1
   go_wp2_with fail
   refine bodyPost_end (v := .tuple #[]) (by simp [results, Tryz.results7, go_sem]) rfl ?_
   refine HFIN.out _ (by with_reducible first | exact HDS.out.set _ _ | exact (HDS.out.set _ _).set _ _) (by with_reducible first | exact HBS.out.setCell hbeg _ | exact (HBS.out.setCell hbeg _).setCell hbeg _) ?_
   rw [if_neg (by simp [hk1])]
   first | ((with_reducible refine (heap_setCell_same _ _ 1 _ _ _ HGS.out).trans ?_); rfl) | ((with_reducible refine (heap_setCell_same _ _ 1 _ _ _ (heap_setCell_same _ _ 1 _ _ _ HGS.out)).trans ?_); rfl)
end Go.Proofs.YtabkmdhkfbcldaaGreat
namespace Go.Proofs.YtabkmdhkfbcldaaGreat
open Go.RowKit
variable {W W' : World} {base t : Nat} {K : Wk} {S : Sh} {B : TB}
set_option maxRecDepth 20000 in
set_option maxHeartbeats 2000000 in
theorem step2_any (H : TOk W base t K S B) (HK : WkOk K) (k : Nat) (hk : k < K.work.length) (hcan : S.canN K k = true) (hx : (S.hand k).at_ = 2) (hst : S.steps ≤ 1000000) (hsz : (K.own k).length ≤ 1000000) :
  Calls Tryz.prog 7 #[.pointer (some ⟨t, 0, none⟩), .int .i64 (k : Nat)] W (TStep W base t K B (S.stepN K k)) := by
 have HTO := hid H
 have hn := H.ok.nx hk (can_facts hcan).1
 have hp : B.pr k = true := by
  cases e : B.pr k with
  | true => rfl
  | false => have := (H.is.free k e).2; omega
 have HD := hid (done_any H.is (k : Int))
 have hdf : S.doneI K (k : Int) = false := by
  unfold Sh.doneI
  rw [Int.toNat_natCast, (can_facts hcan).1]
  simp; omega
 have HW := hid (fun (w1 : World) (hb : Below W.heap.size W w1) => twaits_any (H.is.below hb) HK (k : Int))
 have hwf : S.waitsI K (k : Int) = false := by unfold Sh.waitsI; rw [Int.toNat_natCast, (can_facts hcan).2, hdf]; rfl
 rw [hwf] at HW
 rw [hdf] at HD
 have HA := hid (fun (w1 : World) (hb : Below W.heap.size W w1) => ask_any (H.is.below hb) k hk hn)
 have HM := hid (fun (w1 : World) (hb : Below W.heap.size W w1) => H.is.hands.below hb H.is.hands.lt)
 have HL := hid (H.is.hand k hp).1
 have HZ := hid (fun w1 : World => (show (zeroValue 68).run Tryz.prog w1 = .ok (.pointer none) w1 by kernel_rfl))
 have hlt := (Array.getElem?_eq_some_iff.1 H.is.head).1
 obtain ⟨c0, c1, c2, c3, c4, c5, c6, c7, c8⟩ := tab_cells H.is.head
 have g4 : ∀ w', Below W.heap.size W w' → w'.cell? ⟨t, 4, none⟩ = some (.map (some B.bh)) := fun w' hb => (hb.cell (p := ⟨t, 4, none⟩) hlt).trans c4
 have HG4 := hid g4
 generalize hak : S.ask K k = ak at HA
 have HAK := hid hak
 clear hak hdf hwf c0 c1 c2 c3 c4 c5 c6 c7 c8 H g4
 go_enter Tryz.func7, Tryz.ntmps7
 go_upto_region 3 with (first
  | (go_at_call 17; (with_reducible refine HD.out.mono ?_); rintro e w1 ⟨rfl, q1, rfl⟩)
  | (go_at_call 23; (with_reducible refine (HW.out _ (below_drewN (Below.refl _ _) q1)).mono ?_); rintro e w2 ⟨rfl, hb2⟩; have HB2 := hid (below_more hb2 (below_drewN (Below.refl _ _) q1) (Nat.le_refl _)); clear hb2; have G4 := HG4.out w2 HB2.out)
  | ((with_reducible show wpList _ _ _ (⟨some 19, _, _, _, _, _⟩ :: _) _ _); refine wpList_maplook KInt Tryz.underlying53 rfl (.tmp 17) (.tmp 18) false rfl (.pointer none) (HZ.out _) B.bh B.hm rfl (HM.out _ HB2.out) (k : Int) rfl ?_; rw [HL.out]))
 have HW2 : Hid (Below W.heap.size W w2) := HB2.out
 have g4 := HG4.out
 have hlk : ∀ w', Below W.heap.size W w' → (Instr.lookup 53 (.map (some B.bh)) (.int .i64 (k : Nat)) false).run Tryz.prog w' = .ok (.pointer (some ⟨B.hb k, 0, none⟩)) w' := fun w' hb => by
  have hr := (HM.out w' hb).run_lookup KInt Tryz.underlying53 (HZ.out w') (k : Int) false
  rw [HL.out] at hr
  exact hr
 go_cut [4, 5] (fun v c wx => AkV W ak v wx ∧ c = .pointer (some ⟨B.hb k, 0, none⟩))
 case first =>
  refine wp_region_held_drew (S := fun w' => Below W.heap.size W w') (by kernel_rfl) HW2.out.drew (fun hHeld => ?_)
  refine wpAnyH_take (i := 0) (oi := { dst := some 24, op := Op.move (Operand.tmp 0), type := 26, pos := "shard.go:177", after := #[], guard := none }) (v := ?sav0) rfl (by kernel_rfl) (by kernel_rfl) (by kernel_rfl) (fun _ _ _ h => h) (Or.inl ⟨by rfl, ?sah0⟩) (by assumption) ?sar0
  case sah0 => ((intro w hSw; (try dsimp only at hSw); go_simp); try with_reducible rfl)
  try simp only [Act.put, List.setIfInBounds_toArray, List.set_cons_zero, List.set_cons_succ]
  refine wpAnyH_take (i := 1) (oi := { dst := some 25, op := Op.move (Operand.tmp 1), type := 3, pos := "shard.go:177", after := #[], guard := none }) (v := ?sav1) rfl (by kernel_rfl) (by kernel_rfl) (by kernel_rfl) (fun _ _ _ h => h) (Or.inl ⟨by rfl, ?sah1⟩) (by assumption) ?sar1
  case sah1 => ((intro w hSw; (try dsimp only at hSw); go_simp); try with_reducible rfl)
  try simp only [Act.put, List.setIfInBounds_toArray, List.set_cons_zero, List.set_cons_succ]
  refine wpAnyH_take (i := 3) (oi := { dst := some 27, op := Op.move (Operand.tmp 0), type := 26, pos := "shard.go:177", after := #[{ on := 10, ground := Ground.gcOnly Departure.lateStores }], guard := none }) (v := ?sav3) rfl (by kernel_rfl) (by kernel_rfl) (by kernel_rfl) (fun _ _ _ h => h) (Or.inl ⟨by rfl, ?sah3⟩) (by assumption) ?sar3
  case sah3 => ((intro w hSw; (try dsimp only at hSw); go_simp); try with_reducible rfl)
  try simp only [Act.put, List.setIfInBounds_toArray, List.set_cons_zero, List.set_cons_succ]
  refine wpAnyH_take (i := 4) (oi := { dst := some 28, op := Op.nilCheck (Operand.tmp 27), type := 0, pos := "shard.go:177", after := #[{ on := 3, ground := Ground.data }, { on := 10, ground := Ground.gcOnly Departure.lateStores }], guard := none }) (v := ?sav4) rfl (by kernel_rfl) (by kernel_rfl) (by kernel_rfl) (fun _ _ _ h => h) (Or.inl ⟨by rfl, ?sah4⟩) (by assumption) ?sar4
  case sah4 => ((intro w hSw; (try dsimp only at hSw); go_simp); try with_reducible rfl)
  try simp only [Act.put, List.setIfInBounds_toArray, List.set_cons_zero, List.set_cons_succ]
  refine wpAnyH_take (i := 5) (oi := { dst := some 29, op := Op.fieldAddr 58 (Operand.tmp 28) 4, type := 0, pos := "shard.go:177", after := #[{ on := 4, ground := Ground.data }, { on := 10, ground := Ground.gcOnly Departure.lateStores }], guard := none }) (v := ?sav5) rfl (by kernel_rfl) (by kernel_rfl) (by kernel_rfl) (fun _ _ _ h => h) (Or.inl ⟨by rfl, ?sah5⟩) (by assumption) ?sar5
  case sah5 => ((intro w hSw; (try dsimp only at hSw); go_simp); try with_reducible rfl)
  try simp only [Act.put, List.setIfInBounds_toArray, List.set_cons_zero, List.set_cons_succ]
  refine wpAnyH_take (i := 6) (oi := { dst := some 30, op := Op.load 53 (Operand.tmp 29), type := 53, pos := "shard.go:177", after := #[{ on := 5, ground := Ground.data }, { on := 10, ground := Ground.gcOnly Departure.lateStores }], guard := none }) (v := ?sav6) rfl (by kernel_rfl) (by kernel_rfl) (by kernel_rfl) (fun _ _ _ h => h) (Or.inl ⟨by rfl, ?sah6⟩) (by assumption) ?sar6
  case sah6 => ((intro w hSw; (try dsimp only at hSw); go_simp); try with_reducible rfl)
  try simp only [Act.put, List.setIfInBounds_toArray, List.set_cons_zero, List.set_cons_succ]
  refine wpAnyH_take (i := 7) (oi := { dst := some 31, op := Op.move (Operand.tmp 1), type := 3, pos := "shard.go:177", after := #[{ on := 10, ground := Ground.gcOnly Departure.lateStores }], guard := none }) (v := ?sav7) rfl (by kernel_rfl) (by kernel_rfl) (by kernel_rfl) (fun _ _ _ h => h) (Or.inl ⟨by rfl, ?sah7⟩) (by assumption) ?sar7
  case sah7 => ((intro w hSw; (try dsimp only at hSw); go_simp); try with_reducible rfl)
  try simp only [Act.put, List.setIfInBounds_toArray, List.set_cons_zero, List.set_cons_succ]
  refine wpAnyH_take (i := 8) (oi := { dst := some 32, op := Op.lookup 53 (Operand.tmp 30) (Operand.tmp 31) false, type := 68, pos := "shard.go:177", after := #[{ on := 6, ground := Ground.data }, { on := 7, ground := Ground.data }, { on := 10, ground := Ground.gcOnly Departure.lateStores }], guard := none }) (v := ?sav8) rfl (by kernel_rfl) (by kernel_rfl) (by kernel_rfl) (fun _ _ _ h => h) (Or.inl ⟨by rfl, ?sah8⟩) (by assumption) ?sar8
  case sah8 => ((intro w hSw; (try dsimp only at hSw); go_simp); try with_reducible rfl)
  try simp only [Act.put, List.setIfInBounds_toArray, List.set_cons_zero, List.set_cons_succ]
  refine wpAnyH_ready (rs := [2, 9]) (by kernel_rfl) (by simp) ?_
  refine AllReadyH.cons (o := { dst := some 26, op := Op.call { callee := Callee.value (Operand.func 25), args := #[Operand.tmp 24, Operand.tmp 25], argTypes := #[26, 3] }, type := 46, pos := "shard.go:177", after := #[{ on := 0, ground := Ground.data }, { on := 1, ground := Ground.data }], guard := none }) rfl (fun K hK => ?_) ?_
  ·go_simp
   go_at_call 25; (with_reducible refine (HA.out _ (by first | exact HW2.out.drew | exact (HW2.out.alloc HW2.out.size _).drew)).mono ?_); rintro e w3 ⟨rfl, hb3⟩; have hq3 : Below W.heap.size W w3 := below_more hb3 (by first | exact HW2.out.drew | exact (HW2.out.alloc HW2.out.size _).drew) (Nat.le_refl _); try (have hblk := (hb3.block w2.heap.size (by simp)).trans (heap_alloc_new w2 _); have f0 := frozen_of_row _ _ 0 _ _ hblk; have f1 := frozen_of_row _ _ 1 _ _ hblk; have f2 := frozen_of_row _ _ 2 _ _ hblk; have z0 := cell_of_row _ _ 0 _ _ _ hblk; have z1 := cell_of_row _ _ 1 _ _ _ hblk; have z2 := cell_of_row _ _ 2 _ _ _ hblk; have HBLK := hid hblk; clear hblk); clear hb3
   refine hK.out _ _ (by assumption) (fun hHeld => ?_)
   clear hK K
   try simp only [Act.put, List.setIfInBounds_toArray, List.set_cons_zero, List.set_cons_succ]
   refine wpAnyH_ready (rs := [9]) (by kernel_rfl) (by simp) ?_
   refine AllReadyH.cons (o := { dst := some 4, op := Op.alloc 46, type := 0, pos := "shard.go:177", after := #[], guard := none }) rfl (fun K hK => ?_) AllReadyH.nil
   go_simp; refine hK.out _ _ (by first | exact (HW2.out.alloc HW2.out.size _).drew | exact hq3.alloc hq3.size _) (fun hHeld => ?_)
   clear hK K
   try simp only [Act.put, List.setIfInBounds_toArray, List.set_cons_zero, List.set_cons_succ]
   refine wpAnyH_ready (rs := [10]) (by kernel_rfl) (by simp) ?_
   refine AllReadyH.cons (o := { dst := none, op := Op.store 46 (Operand.tmp 4) (Operand.tmp 26), type := 0, pos := "shard.go:177", after := #[{ on := 9, ground := Ground.data }, { on := 2, ground := Ground.data }, { on := 2, ground := Ground.chain }, { on := 0, ground := Ground.phase }, { on := 1, ground := Ground.phase }, { on := 2, ground := Ground.phase }, { on := 3, ground := Ground.textOnly Departure.lateStores }, { on := 4, ground := Ground.textOnly Departure.lateStores }, { on := 5, ground := Ground.textOnly Departure.lateStores }, { on := 6, ground := Ground.textOnly Departure.lateStores }, { on := 7, ground := Ground.textOnly Departure.lateStores }, { on := 8, ground := Ground.textOnly Departure.lateStores }, { on := 9, ground := Ground.phase }], guard := none }) rfl (fun K hK => ?_) AllReadyH.nil
   go_simp; refine hK.out _ _ (by first | exact hq3.alloc hq3.size _ | exact ((hq3.setCell HW2.out.size _).setCell HW2.out.size _).setCell HW2.out.size _) (fun hHeld => ?_)
   clear hK K
   try simp only [Act.put, List.setIfInBounds_toArray, List.set_cons_zero, List.set_cons_succ]
   refine wpAnyH_take (i := 11) (oi := { dst := some 5, op := Op.assign (Operand.tmp 32), type := 68, pos := "shard.go:177", after := #[{ on := 8, ground := Ground.data }, { on := 10, ground := Ground.chain }, { on := 0, ground := Ground.phase }, { on := 1, ground := Ground.phase }, { on := 2, ground := Ground.phase }, { on := 3, ground := Ground.phase }, { on := 4, ground := Ground.phase }, { on := 5, ground := Ground.phase }, { on := 6, ground := Ground.phase }, { on := 7, ground := Ground.phase }, { on := 8, ground := Ground.phase }, { on := 9, ground := Ground.phase }, { on := 10, ground := Ground.phase }], guard := none }) (v := ?saav11) rfl (by kernel_rfl) (by kernel_rfl) (by kernel_rfl) (fun _ _ _ h => h) (Or.inl ⟨by rfl, ?saah11⟩) (by assumption) ?saar11
   case saah11 => ((intro w hSw; (try dsimp only at hSw); go_simp); try with_reducible rfl)
   try simp only [Act.put, List.setIfInBounds_toArray, List.set_cons_zero, List.set_cons_succ]
   refine wpAnyH_done (by kernel_rfl) ?_ _
   go_wp2_with fail
   go_meet
   first | exact ⟨⟨_, rfl, hq3.size, heap_alloc_new w3 _, hq3.alloc hq3.size _⟩, rfl⟩ | exact ⟨⟨_, rfl, HW2.out.size, heap_setCell_same _ _ 2 _ _ _ (heap_setCell_same _ _ 1 _ _ _ (heap_setCell_same _ _ 0 _ _ _ HBLK.out)), ((hq3.setCell HW2.out.size _).setCell HW2.out.size _).setCell HW2.out.size _⟩, rfl⟩
  refine AllReadyH.cons (o := { dst := some 4, op := Op.alloc 46, type := 0, pos := "shard.go:177", after := #[], guard := none }) rfl (fun K hK => ?_) AllReadyH.nil
  go_simp; refine hK.out _ _ (by first | exact (HW2.out.alloc HW2.out.size _).drew | exact hq3.alloc hq3.size _) (fun hHeld => ?_)
  clear hK K
  try simp only [Act.put, List.setIfInBounds_toArray, List.set_cons_zero, List.set_cons_succ]
  refine wpAnyH_ready (rs := [2]) (by kernel_rfl) (by simp) ?_
  refine AllReadyH.cons (o := { dst := some 26, op := Op.call { callee := Callee.value (Operand.func 25), args := #[Operand.tmp 24, Operand.tmp 25], argTypes := #[26, 3] }, type := 46, pos := "shard.go:177", after := #[{ on := 0, ground := Ground.data }, { on := 1, ground := Ground.data }], guard := none }) rfl (fun K hK => ?_) AllReadyH.nil
  go_simp
  go_at_call 25; (with_reducible refine (HA.out _ (by first | exact HW2.out.drew | exact (HW2.out.alloc HW2.out.size _).drew)).mono ?_); rintro e w3 ⟨rfl, hb3⟩; have hq3 : Below W.heap.size W w3 := below_more hb3 (by first | exact HW2.out.drew | exact (HW2.out.alloc HW2.out.size _).drew) (Nat.le_refl _); try (have hblk := (hb3.block w2.heap.size (by simp)).trans (heap_alloc_new w2 _); have f0 := frozen_of_row _ _ 0 _ _ hblk; have f1 := frozen_of_row _ _ 1 _ _ hblk; have f2 := frozen_of_row _ _ 2 _ _ hblk; have z0 := cell_of_row _ _ 0 _ _ _ hblk; have z1 := cell_of_row _ _ 1 _ _ _ hblk; have z2 := cell_of_row _ _ 2 _ _ _ hblk; have HBLK := hid hblk; clear hblk); clear hb3
  refine hK.out _ _ (by assumption) (fun hHeld => ?_)
  clear hK K
  try simp only [Act.put, List.setIfInBounds_toArray, List.set_cons_zero, List.set_cons_succ]
  refine wpAnyH_ready (rs := [10]) (by kernel_rfl) (by simp) ?_
  refine AllReadyH.cons (o := { dst := none, op := Op.store 46 (Operand.tmp 4) (Operand.tmp 26), type := 0, pos := "shard.go:177", after := #[{ on := 9, ground := Ground.data }, { on := 2, ground := Ground.data }, { on := 2, ground := Ground.chain }, { on := 0, ground := Ground.phase }, { on := 1, ground := Ground.phase }, { on := 2, ground := Ground.phase }, { on := 3, ground := Ground.textOnly Departure.lateStores }, { on := 4, ground := Ground.textOnly Departure.lateStores }, { on := 5, ground := Ground.textOnly Departure.lateStores }, { on := 6, ground := Ground.textOnly Departure.lateStores }, { on := 7, ground := Ground.textOnly Departure.lateStores }, { on := 8, ground := Ground.textOnly Departure.lateStores }, { on := 9, ground := Ground.phase }], guard := none }) rfl (fun K hK => ?_) AllReadyH.nil
  go_simp; refine hK.out _ _ (by first | exact hq3.alloc hq3.size _ | exact ((hq3.setCell HW2.out.size _).setCell HW2.out.size _).setCell HW2.out.size _) (fun hHeld => ?_)
  clear hK K
  try simp only [Act.put, List.setIfInBounds_toArray, List.set_cons_zero, List.set_cons_succ]
  refine wpAnyH_take (i := 11) (oi := { dst := some 5, op := Op.assign (Operand.tmp 32), type := 68, pos := "shard.go:177", after := #[{ on := 8, ground := Ground.data }, { on := 10, ground := Ground.chain }, { on := 0, ground := Ground.phase }, { on := 1, ground := Ground.phase }, { on := 2, ground := Ground.phase }, { on := 3, ground := Ground.phase }, { on := 4, ground := Ground.phase }, { on := 5, ground := Ground.phase }, { on := 6, ground := Ground.phase }, { on := 7, ground := Ground.phase }, { on := 8, ground := Ground.phase }, { on := 9, ground := Ground.phase }, { on := 10, ground := Ground.phase }], guard := none }) (v := ?sabv11) rfl (by kernel_rfl) (by kernel_rfl) (by kernel_rfl) (fun _ _ _ h => h) (Or.inl ⟨by rfl, ?sabh11⟩) (by assumption) ?sabr11
  case sabh11 => ((intro w hSw; (try dsimp only at hSw); go_simp); try with_reducible rfl)
  try simp only [Act.put, List.setIfInBounds_toArray, List.set_cons_zero, List.set_cons_succ]
  refine wpAnyH_done (by kernel_rfl) ?_ _
  go_wp2_with fail
  go_meet
  first | exact ⟨⟨_, rfl, hq3.size, heap_alloc_new w3 _, hq3.alloc hq3.size _⟩, rfl⟩ | exact ⟨⟨_, rfl, HW2.out.size, heap_setCell_same _ _ 2 _ _ _ (heap_setCell_same _ _ 1 _ _ _ (heap_setCell_same _ _ 0 _ _ _ HBLK.out)), ((hq3.setCell HW2.out.size _).setCell HW2.out.size _).setCell HW2.out.size _⟩, rfl⟩
 case rest =>
  obtain ⟨⟨b, rfl, hbz, hbb, hbc⟩, rfl⟩ := hcut
  clear hlk g4
  have HBC := hid hbc
  have HBB := hid hbb
  have hT := HTO.out.is.below hbc
  have htb : t ≠ b := by have := hlt; omega
  have hh1 := hT.head
  obtain ⟨c0, c1, c2, c3, c4, c5, c6, c7, c8⟩ := tab_cells hh1
  have cf8 := frozen_of_row _ _ 8 _ _ hh1
  have HT := hid hT
  clear c0 c1 c2 c3 c4 c5 c6 c7 hh1 hbc hbb hT
  go_upto_region 5 with fail
  obtain ⟨W4, hW4⟩ : ∃ W4, W4 = wc.setCell ⟨t, 8, none⟩ (.int .i64 ((S.steps : Nat) + 1)) := ⟨_, rfl⟩
  rw [← hW4]
  have HO4 : Hid (∀ j, j ≠ t → W4.heap[j]? = wc.heap[j]?) := fun j hj => by rw [hW4]; exact heap_setCell_other _ _ _ _ hj
  have HH4 : Hid (W4.heap[t]? = some (tabO B K (S.steps + 1))) := by
   rw [hW4]
   have e := heap_setCell_same wc t 8 _ _ (.int .i64 ((S.steps : Nat) + 1)) HT.out.head
   have e2 : ((S.steps + 1 : Nat) : Int) = (S.steps : Int) + 1 := by omega
   unfold tabO
   rw [e2]
   exact e
  have HZ4 : Hid (W4.heap.size = wc.heap.size) := by rw [hW4]; simp [Hid]
  have HB4 : Hid (Below base wc W4) := by rw [hW4]; exact (Below.refl _ _).setCell (HTO.out.is.ap t (.inl rfl)).2.1 _
  clear hW4 c8 cf8
  have hgt : B.hb k ≠ t := tag_ne (HT.out.tagHand k hp) HT.out.tagT (by decide)
  have hG4 : W4.heap[B.hb k]? = some (handO (S.hand k) (B.hv k)) := (HO4.out _ hgt).trans (HT.out.hand k hp).2
  have hA4 : W4.heap[b]? = some (.cells #[.int .i64 ak.kind, .string ak.key, .int .i64 ak.value] 46 (0, 0)) := (HO4.out _ (Ne.symm htb)).trans HBB.out
  have hgb : b ≠ B.hb k := by have := (HTO.out.is.ap _ (.inr (.inr (.inr (.inr (.inr (.inr (.inr (.inr ⟨k, hp, rfl⟩))))))))).2.2; omega
  have q1 : W4.cell? ⟨B.hb k, 1, none⟩ = some (.int .i64 ((S.hand k).at_ : Nat)) := cell_of_row _ _ 1 _ _ _ hG4
  rw [hx] at q1
  have HG4' := hid hG4
  have HA4 := hid hA4
  have hbeg : base ≤ B.hb k := (HTO.out.is.ap _ (.inr (.inr (.inr (.inr (.inr (.inr (.inr (.inr ⟨k, hp, rfl⟩))))))))).2.1
  have HV4 : Hid (MapIs Value.string (Value.int .i64) W4 B.bv B.vm) := by
   obtain ⟨es, c, he, F⟩ := HT.out.vals
   exact ⟨es, c, (HO4.out _ (tag_ne (map_tag HT.out.vals) HT.out.tagT (by decide))).trans he, F⟩
  have HD4 : Hid (MapIs Value.string Value.bool W4 B.bt B.tm) := by
   obtain ⟨es, c, he, F⟩ := HT.out.told
   exact ⟨es, c, (HO4.out _ (tag_ne (map_tag HT.out.told) HT.out.tagT (by decide))).trans he, F⟩
  have hmg : B.bv ≠ B.hb k := tag_ne (map_tag HV4.out) (by unfold tagAt; rw [hG4]; rfl) (show (0 : Nat) ≠ 71 + 1 by decide)
  have hmt : B.bv ≠ t := tag_ne (map_tag HV4.out) (by unfold tagAt; rw [HH4.out]; rfl) (show (0 : Nat) ≠ 58 + 1 by decide)
  have hmb : B.bv ≠ b := tag_ne (map_tag HV4.out) (by unfold tagAt; rw [hA4]; rfl) (show (0 : Nat) ≠ 46 + 1 by decide)
  have hog : B.bt ≠ B.hb k := tag_ne (map_tag HD4.out) (by unfold tagAt; rw [hG4]; rfl) (show (0 : Nat) ≠ 71 + 1 by decide)
  have hom : B.bt ≠ B.bv := HT.out.mp.2.2.symm
  have hbl4 : b < W4.heap.size := (Array.getElem?_eq_some_iff.1 hA4).1
  have htl4 : t < W4.heap.size := (Array.getElem?_eq_some_iff.1 HH4.out).1
  have hgl4 : B.hb k < W4.heap.size := (Array.getElem?_eq_some_iff.1 hG4).1
  have hol4 := HD4.out.lt
  go_upto_region 16 with fail
  have a1 : ∀ w', But (fun j => j = B.bv) W4 w' → w'.cell? ⟨b, 1, none⟩ = some (.string ak.key) := fun w' h => (World.cell?_of_block (a := ⟨b, 1, none⟩) (h.keep b hbl4 (Ne.symm hmb))).trans (cell_of_row _ _ 1 _ _ _ hA4)
  have a2 : ∀ w', But (fun j => j = B.bv) W4 w' → w'.cell? ⟨b, 2, none⟩ = some (.int .i64 ak.value) := fun w' h => (World.cell?_of_block (a := ⟨b, 2, none⟩) (h.keep b hbl4 (Ne.symm hmb))).trans (cell_of_row _ _ 2 _ _ _ hA4)
  have a5 : ∀ w', But (fun j => j = B.bv) W4 w' → w'.cell? ⟨t, 5, none⟩ = some (.map (some B.bv)) := fun w' h => (World.cell?_of_block (a := ⟨t, 5, none⟩) (h.keep t htl4 (Ne.symm hmt))).trans (cell_of_row W4 _ 5 _ _ _ HH4.out)
  have HFIN : Hid (∀ w5 : World, MapIs Value.string (Value.int .i64) w5 B.bv (aset B.vm ak.key ak.value) → W4.drew.grownBy w5 (some B.bv) → TStep W base t K B (S.stepN K k) (.returned (.tuple #[])) (w5.setCell ⟨B.hb k, 1, none⟩ (.int .i64 3))) := fun w5 hm5 hg5 => by
   have hsi : S.stepN K k = S.poke k { S.hand k with at_ := 3 } (S.rows ++ [⟨ak.key, ak.value, false⟩]) (S.steps + 1) := by
    rw [step_is hcan]; unfold Sh.body; simp only [hx, HAK.out]; rfl
   have hk5 : ∀ j, j < W4.heap.size → j ≠ B.bv → w5.heap[j]? = W4.heap[j]? := fun j hl hj => hg5.block j hl (fun e => hj (Option.some.inj e))
   have hG5 : w5.heap[B.hb k]? = some (handO (S.hand k) (B.hv k)) := (hk5 _ hgl4 (Ne.symm hmg)).trans HG4'.out
   have hbm := (HTO.out.is.ap B.bv (.inr (.inr (.inl rfl)))).2.1
   have hO5 : MapIs Value.string Value.bool (w5.setCell ⟨B.hb k, 1, none⟩ (.int .i64 3)) B.bt B.tm := by
    obtain ⟨es, c, he, F⟩ := HD4.out
    exact ⟨es, c, ((heap_setCell_other _ _ _ _ hog).trans (hk5 _ hol4 hom)).trans he, F⟩
   have hM5 : MapIs Value.string (Value.int .i64) (w5.setCell ⟨B.hb k, 1, none⟩ (.int .i64 3)) B.bv (aset B.vm ak.key ak.value) := by
    obtain ⟨es, c, he, F⟩ := hm5
    exact ⟨es, c, (heap_setCell_other _ _ _ _ hmg).trans he, F⟩
   obtain ⟨t1, t2, t3⟩ := (HTO.out.ok.each k hk).two hx
   rw [HAK.out] at t1 t2
   refine TStep.poked (TabIs.shLt HK) HTO.out hk hp HBC.out { S.hand k with at_ := 3 } (B.hv k) (S.rows ++ [⟨ak.key, ak.value, false⟩]) (aset B.vm ak.key ak.value) B.tm hsi (by simp) ?_ ?_ ?_ ?_ ?_ hM5 ?_ hO5 ?_
   ·intro h4 _; simp at h4
   ·refine ⟨fun j hl hj => ?_, by have h1 : W4.heap.size ≤ w5.heap.size := hg5.size; have h2 := HZ4.out; simp; omega⟩
    rw [heap_setCell_other _ _ _ _ (fun e => hj (.inr (.inl e)))]
    exact (hk5 j (by rw [HZ4.out]; exact hl) (fun e => hj (.inr (.inr (.inl e))))).trans (HO4.out j (fun e => hj (.inl e)))
   ·exact (HB4.out.trans ((Below.refl _ W4).drew.grown hg5 (show base ≤ W4.heap.size by omega) (fun x e => by cases e; exact hbm))).setCell hbeg _
   ·exact ((heap_setCell_other _ _ _ _ (Ne.symm hgt)).trans (hk5 t htl4 (Ne.symm hmt))).trans HH4.out
   ·exact heap_setCell_same _ _ 1 _ _ _ hG5
   ·intro key
    rw [alook_set, rowAt_app]
    have h0 := HTO.out.is.valIs key
    by_cases e : key = ak.key
    ·subst e
     rw [if_pos rfl]
     unfold Sh.get at t2
     have t2 : rowAt S.rows ak.key = none := by simpa using t2
     rw [t2]; simp
    ·rw [if_neg e, if_neg (Ne.symm e), h0]; unfold Sh.get; simp
   ·intro key
    rw [HTO.out.is.toldIs key]
    exact (told_app (S := S) ⟨ak.key, ak.value, false⟩ key { S with rows := S.rows ++ [⟨ak.key, ak.value, false⟩] } rfl rfl).symm
  have HM4' : Hid (MapIs Value.string (Value.int .i64) W4.drew B.bv B.vm) := HV4.out
  have HK4 : Hid (∀ w5, W4.drew.grownBy w5 (some B.bv) → (But (fun j => j = B.bv) W4 w5 ∧ w5.cell? ⟨B.hb k, 1, none⟩ = some (.int .i64 ((S.hand k).at_ : Nat)) ∧ w5.frozen? ⟨B.hb k, 1, none⟩ = false)) := fun w5 hg5 => by
   have hk5 : ∀ j, j < W4.heap.size → j ≠ B.bv → w5.heap[j]? = W4.heap[j]? := fun j hl hj => hg5.block j hl (fun e => hj (Option.some.inj e))
   have hG5 : w5.heap[B.hb k]? = some (handO (S.hand k) (B.hv k)) := (hk5 _ hgl4 (Ne.symm hmg)).trans HG4'.out
   exact ⟨⟨fun j hl hj => hk5 j hl hj, hg5.size⟩, cell_of_row _ _ 1 _ _ _ hG5, frozen_of_row _ _ 1 _ _ hG5⟩
  clear hG4 hA4
  have hS4 : But (fun j => j = B.bv) W4 W4.drew := ⟨fun _ _ _ => rfl, Nat.le_refl _⟩
  refine wp_region_held_drew (S := fun w' => But (fun j => j = B.bv) W4 w') (by kernel_rfl) hS4 (fun hHeld => ?_)
  refine wpAnyH_take (i := 0) (oi := { dst := some 104, op := Op.move (Operand.tmp 0), type := 26, pos := "shard.go:190", after := #[], guard := none }) (v := ?smv0) rfl (by kernel_rfl) (by kernel_rfl) (by kernel_rfl) (fun _ _ _ h => h) (Or.inl ⟨by rfl, ?smh0⟩) (by assumption) ?smr0
  case smh0 => ((intro w hSw; (try dsimp only at hSw); go_simp); try with_reducible rfl)
  try simp only [Act.put, List.setIfInBounds_toArray, List.set_cons_zero, List.set_cons_succ]
  refine wpAnyH_take (i := 1) (oi := { dst := some 105, op := Op.nilCheck (Operand.tmp 104), type := 0, pos := "shard.go:190", after := #[{ on := 0, ground := Ground.data }], guard := none }) (v := ?smv1) rfl (by kernel_rfl) (by kernel_rfl) (by kernel_rfl) (fun _ _ _ h => h) (Or.inl ⟨by rfl, ?smh1⟩) (by assumption) ?smr1
  case smh1 => ((intro w hSw; (try dsimp only at hSw); go_simp); try with_reducible rfl)
  try simp only [Act.put, List.setIfInBounds_toArray, List.set_cons_zero, List.set_cons_succ]
  refine wpAnyH_take (i := 2) (oi := { dst := some 106, op := Op.fieldAddr 58 (Operand.tmp 105) 5, type := 0, pos := "shard.go:190", after := #[{ on := 1, ground := Ground.data }], guard := none }) (v := ?smv2) rfl (by kernel_rfl) (by kernel_rfl) (by kernel_rfl) (fun _ _ _ h => h) (Or.inl ⟨by rfl, ?smh2⟩) (by assumption) ?smr2
  case smh2 => ((intro w hSw; (try dsimp only at hSw); go_simp); try with_reducible rfl)
  try simp only [Act.put, List.setIfInBounds_toArray, List.set_cons_zero, List.set_cons_succ]
  refine wpAnyH_take (i := 3) (oi := { dst := some 107, op := Op.load 54 (Operand.tmp 106), type := 54, pos := "shard.go:190", after := #[{ on := 2, ground := Ground.data }], guard := none }) (v := ?smv3) rfl (by kernel_rfl) (by kernel_rfl) (by kernel_rfl) (fun _ _ _ h => h) (Or.inl ⟨by rfl, ?smh3⟩) (by assumption) ?smr3
  case smh3 => ((intro w hSw; (try dsimp only at hSw); go_simp); try with_reducible rfl)
  try simp only [Act.put, List.setIfInBounds_toArray, List.set_cons_zero, List.set_cons_succ]
  refine wpAnyH_take (i := 4) (oi := { dst := some 108, op := Op.fieldAddr 46 (Operand.tmp 4) 1, type := 0, pos := "shard.go:190", after := #[], guard := none }) (v := ?smv4) rfl (by kernel_rfl) (by kernel_rfl) (by kernel_rfl) (fun _ _ _ h => h) (Or.inl ⟨by rfl, ?smh4⟩) (by assumption) ?smr4
  case smh4 => ((intro w hSw; (try dsimp only at hSw); go_simp); try with_reducible rfl)
  try simp only [Act.put, List.setIfInBounds_toArray, List.set_cons_zero, List.set_cons_succ]
  refine wpAnyH_take (i := 5) (oi := { dst := some 109, op := Op.load 9 (Operand.tmp 108), type := 9, pos := "shard.go:190", after := #[{ on := 4, ground := Ground.data }], guard := none }) (v := ?smv5) rfl (by kernel_rfl) (by kernel_rfl) (by kernel_rfl) (fun _ _ _ h => h) (Or.inl ⟨by rfl, ?smh5⟩) (by assumption) ?smr5
  case smh5 => ((intro w hSw; (try dsimp only at hSw); go_simp); try with_reducible rfl)
  try simp only [Act.put, List.setIfInBounds_toArray, List.set_cons_zero, List.set_cons_succ]
  refine wpAnyH_take (i := 6) (oi := { dst := some 110, op := Op.fieldAddr 46 (Operand.tmp 4) 2, type := 0, pos := "shard.go:190", after := #[], guard := none }) (v := ?smv6) rfl (by kernel_rfl) (by kernel_rfl) (by kernel_rfl) (fun _ _ _ h => h) (Or.inl ⟨by rfl, ?smh6⟩) (by assumption) ?smr6
  case smh6 => ((intro w hSw; (try dsimp only at hSw); go_simp); try with_reducible rfl)
  try simp only [Act.put, List.setIfInBounds_toArray, List.set_cons_zero, List.set_cons_succ]
  refine wpAnyH_take (i := 7) (oi := { dst := some 111, op := Op.load 2 (Operand.tmp 110), type := 2, pos := "shard.go:190", after := #[{ on := 6, ground := Ground.data }], guard := none }) (v := ?smv7) rfl (by kernel_rfl) (by kernel_rfl) (by kernel_rfl) (fun _ _ _ h => h) (Or.inl ⟨by rfl, ?smh7⟩) (by assumption) ?smr7
  case smh7 => ((intro w hSw; (try dsimp only at hSw); go_simp); try with_reducible rfl)
  try simp only [Act.put, List.setIfInBounds_toArray, List.set_cons_zero, List.set_cons_succ]
  refine wpAnyH_ready (rs := [8]) (by kernel_rfl) (by simp) ?_
  refine AllReadyH.cons (o := { dst := none, op := Op.mapUpdate 54 (Operand.tmp 107) (Operand.tmp 109) (Operand.tmp 111), type := 0, pos := "shard.go:190", after := #[{ on := 3, ground := Ground.data }, { on := 5, ground := Ground.data }, { on := 7, ground := Ground.data }, { on := 0, ground := Ground.phase }, { on := 1, ground := Ground.phase }, { on := 2, ground := Ground.phase }, { on := 3, ground := Ground.phase }, { on := 4, ground := Ground.phase }, { on := 5, ground := Ground.phase }, { on := 6, ground := Ground.phase }, { on := 7, ground := Ground.phase }], guard := none }) rfl (fun K hK => ?_) AllReadyH.nil
  (refine step_mapset KStr Tryz.underlying54 rfl (.tmp 107) (.tmp 109) (.tmp 111) (.inl rfl) B.bv B.vm rfl HM4'.out ak.key rfl ak.value rfl ?_); intro w5 hm5 hg5; have HM5 := hid hm5; have HG5 := hid hg5; obtain ⟨hs5, y1, yf⟩ := HK4.out w5 hg5; clear hm5 hg5; refine hK.out _ _ hs5 (fun hHeld => ?_)
  clear hK K
  try simp only [Act.put, List.setIfInBounds_toArray, List.set_cons_zero, List.set_cons_succ]
  refine wpAnyH_done (by kernel_rfl) ?_ _
  go_wp2_with fail
  refine bodyPost_end (v := .tuple #[]) (by simp [results, Tryz.results7, go_sem]) rfl ?_
  exact HFIN.out w5 HM5.out HG5.out
set_option maxRecDepth 20000 in
set_option maxHeartbeats 2000000 in
theorem step3_any (H : TOk W base t K S B) (HK : WkOk K) (k : Nat) (hk : k < K.work.length) (hcan : S.canN K k = true) (hx : (S.hand k).at_ = 3) (hst : S.steps ≤ 1000000) (hsz : (K.own k).length ≤ 1000000) :
  Calls Tryz.prog 7 #[.pointer (some ⟨t, 0, none⟩), .int .i64 (k : Nat)] W (TStep W base t K B (S.stepN K k)) := by
 have HTO := hid H
 have hn := H.ok.nx hk (can_facts hcan).1
 have hp : B.pr k = true := by
  cases e : B.pr k with
  | true => rfl
  | false => have := (H.is.free k e).2; omega
 have HD := hid (done_any H.is (k : Int))
 have hdf : S.doneI K (k : Int) = false := by
  unfold Sh.doneI
  rw [Int.toNat_natCast, (can_facts hcan).1]
  simp; omega
 have HW := hid (fun (w1 : World) (hb : Below W.heap.size W w1) => twaits_any (H.is.below hb) HK (k : Int))
 have hwf : S.waitsI K (k : Int) = false := by unfold Sh.waitsI; rw [Int.toNat_natCast, (can_facts hcan).2, hdf]; rfl
 rw [hwf] at HW
 rw [hdf] at HD
 have HA := hid (fun (w1 : World) (hb : Below W.heap.size W w1) => ask_any (H.is.below hb) k hk hn)
 have HM := hid (fun (w1 : World) (hb : Below W.heap.size W w1) => H.is.hands.below hb H.is.hands.lt)
 have HL := hid (H.is.hand k hp).1
 have HZ := hid (fun w1 : World => (show (zeroValue 68).run Tryz.prog w1 = .ok (.pointer none) w1 by kernel_rfl))
 have hlt := (Array.getElem?_eq_some_iff.1 H.is.head).1
 obtain ⟨c0, c1, c2, c3, c4, c5, c6, c7, c8⟩ := tab_cells H.is.head
 have g4 : ∀ w', Below W.heap.size W w' → w'.cell? ⟨t, 4, none⟩ = some (.map (some B.bh)) := fun w' hb => (hb.cell (p := ⟨t, 4, none⟩) hlt).trans c4
 have HG4 := hid g4
 generalize hak : S.ask K k = ak at HA
 have HAK := hid hak
 clear hak hdf hwf c0 c1 c2 c3 c4 c5 c6 c7 c8 H g4
 go_enter Tryz.func7, Tryz.ntmps7
 go_upto_region 3 with (first
  | (go_at_call 17; (with_reducible refine HD.out.mono ?_); rintro e w1 ⟨rfl, q1, rfl⟩)
  | (go_at_call 23; (with_reducible refine (HW.out _ (below_drewN (Below.refl _ _) q1)).mono ?_); rintro e w2 ⟨rfl, hb2⟩; have HB2 := hid (below_more hb2 (below_drewN (Below.refl _ _) q1) (Nat.le_refl _)); clear hb2; have G4 := HG4.out w2 HB2.out)
  | ((with_reducible show wpList _ _ _ (⟨some 19, _, _, _, _, _⟩ :: _) _ _); refine wpList_maplook KInt Tryz.underlying53 rfl (.tmp 17) (.tmp 18) false rfl (.pointer none) (HZ.out _) B.bh B.hm rfl (HM.out _ HB2.out) (k : Int) rfl ?_; rw [HL.out]))
 have HW2 : Hid (Below W.heap.size W w2) := HB2.out
 have g4 := HG4.out
 have hlk : ∀ w', Below W.heap.size W w' → (Instr.lookup 53 (.map (some B.bh)) (.int .i64 (k : Nat)) false).run Tryz.prog w' = .ok (.pointer (some ⟨B.hb k, 0, none⟩)) w' := fun w' hb => by
  have hr := (HM.out w' hb).run_lookup KInt Tryz.underlying53 (HZ.out w') (k : Int) false
  rw [HL.out] at hr
  exact hr
 go_cut [4, 5] (fun v c wx => AkV W ak v wx ∧ c = .pointer (some ⟨B.hb k, 0, none⟩))
 case first =>
  refine wp_region_held_drew (S := fun w' => Below W.heap.size W w') (by kernel_rfl) HW2.out.drew (fun hHeld => ?_)
  refine wpAnyH_take (i := 0) (oi := { dst := some 24, op := Op.move (Operand.tmp 0), type := 26, pos := "shard.go:177", after := #[], guard := none }) (v := ?sav0) rfl (by kernel_rfl) (by kernel_rfl) (by kernel_rfl) (fun _ _ _ h => h) (Or.inl ⟨by rfl, ?sah0⟩) (by assumption) ?sar0
  case sah0 => ((intro w hSw; (try dsimp only at hSw); go_simp); try with_reducible rfl)
  try simp only [Act.put, List.setIfInBounds_toArray, List.set_cons_zero, List.set_cons_succ]
  refine wpAnyH_take (i := 1) (oi := { dst := some 25, op := Op.move (Operand.tmp 1), type := 3, pos := "shard.go:177", after := #[], guard := none }) (v := ?sav1) rfl (by kernel_rfl) (by kernel_rfl) (by kernel_rfl) (fun _ _ _ h => h) (Or.inl ⟨by rfl, ?sah1⟩) (by assumption) ?sar1
  case sah1 => ((intro w hSw; (try dsimp only at hSw); go_simp); try with_reducible rfl)
  try simp only [Act.put, List.setIfInBounds_toArray, List.set_cons_zero, List.set_cons_succ]
  refine wpAnyH_take (i := 3) (oi := { dst := some 27, op := Op.move (Operand.tmp 0), type := 26, pos := "shard.go:177", after := #[{ on := 10, ground := Ground.gcOnly Departure.lateStores }], guard := none }) (v := ?sav3) rfl (by kernel_rfl) (by kernel_rfl) (by kernel_rfl) (fun _ _ _ h => h) (Or.inl ⟨by rfl, ?sah3⟩) (by assumption) ?sar3
  case sah3 => ((intro w hSw; (try dsimp only at hSw); go_simp); try with_reducible rfl)
  try simp only [Act.put, List.setIfInBounds_toArray, List.set_cons_zero, List.set_cons_succ]
  refine wpAnyH_take (i := 4) (oi := { dst := some 28, op := Op.nilCheck (Operand.tmp 27), type := 0, pos := "shard.go:177", after := #[{ on := 3, ground := Ground.data }, { on := 10, ground := Ground.gcOnly Departure.lateStores }], guard := none }) (v := ?sav4) rfl (by kernel_rfl) (by kernel_rfl) (by kernel_rfl) (fun _ _ _ h => h) (Or.inl ⟨by rfl, ?sah4⟩) (by assumption) ?sar4
  case sah4 => ((intro w hSw; (try dsimp only at hSw); go_simp); try with_reducible rfl)
  try simp only [Act.put, List.setIfInBounds_toArray, List.set_cons_zero, List.set_cons_succ]
  refine wpAnyH_take (i := 5) (oi := { dst := some 29, op := Op.fieldAddr 58 (Operand.tmp 28) 4, type := 0, pos := "shard.go:177", after := #[{ on := 4, ground := Ground.data }, { on := 10, ground := Ground.gcOnly Departure.lateStores }], guard := none }) (v := ?sav5) rfl (by kernel_rfl) (by kernel_rfl) (by kernel_rfl) (fun _ _ _ h => h) (Or.inl ⟨by rfl, ?sah5⟩) (by assumption) ?sar5
  case sah5 => ((intro w hSw; (try dsimp only at hSw); go_simp); try with_reducible rfl)
  try simp only [Act.put, List.setIfInBounds_toArray, List.set_cons_zero, List.set_cons_succ]
  refine wpAnyH_take (i := 6) (oi := { dst := some 30, op := Op.load 53 (Operand.tmp 29), type := 53, pos := "shard.go:177", after := #[{ on := 5, ground := Ground.data }, { on := 10, ground := Ground.gcOnly Departure.lateStores }], guard := none }) (v := ?sav6) rfl (by kernel_rfl) (by kernel_rfl) (by kernel_rfl) (fun _ _ _ h => h) (Or.inl ⟨by rfl, ?sah6⟩) (by assumption) ?sar6
  case sah6 => ((intro w hSw; (try dsimp only at hSw); go_simp); try with_reducible rfl)
  try simp only [Act.put, List.setIfInBounds_toArray, List.set_cons_zero, List.set_cons_succ]
  refine wpAnyH_take (i := 7) (oi := { dst := some 31, op := Op.move (Operand.tmp 1), type := 3, pos := "shard.go:177", after := #[{ on := 10, ground := Ground.gcOnly Departure.lateStores }], guard := none }) (v := ?sav7) rfl (by kernel_rfl) (by kernel_rfl) (by kernel_rfl) (fun _ _ _ h => h) (Or.inl ⟨by rfl, ?sah7⟩) (by assumption) ?sar7
  case sah7 => ((intro w hSw; (try dsimp only at hSw); go_simp); try with_reducible rfl)
  try simp only [Act.put, List.setIfInBounds_toArray, List.set_cons_zero, List.set_cons_succ]
  refine wpAnyH_take (i := 8) (oi := { dst := some 32, op := Op.lookup 53 (Operand.tmp 30) (Operand.tmp 31) false, type := 68, pos := "shard.go:177", after := #[{ on := 6, ground := Ground.data }, { on := 7, ground := Ground.data }, { on := 10, ground := Ground.gcOnly Departure.lateStores }], guard := none }) (v := ?sav8) rfl (by kernel_rfl) (by kernel_rfl) (by kernel_rfl) (fun _ _ _ h => h) (Or.inl ⟨by rfl, ?sah8⟩) (by assumption) ?sar8
  case sah8 => ((intro w hSw; (try dsimp only at hSw); go_simp); try with_reducible rfl)
  try simp only [Act.put, List.setIfInBounds_toArray, List.set_cons_zero, List.set_cons_succ]
  refine wpAnyH_ready (rs := [2, 9]) (by kernel_rfl) (by simp) ?_
  refine AllReadyH.cons (o := { dst := some 26, op := Op.call { callee := Callee.value (Operand.func 25), args := #[Operand.tmp 24, Operand.tmp 25], argTypes := #[26, 3] }, type := 46, pos := "shard.go:177", after := #[{ on := 0, ground := Ground.data }, { on := 1, ground := Ground.data }], guard := none }) rfl (fun K hK => ?_) ?_
  ·go_simp
   go_at_call 25; (with_reducible refine (HA.out _ (by first | exact HW2.out.drew | exact (HW2.out.alloc HW2.out.size _).drew)).mono ?_); rintro e w3 ⟨rfl, hb3⟩; have hq3 : Below W.heap.size W w3 := below_more hb3 (by first | exact HW2.out.drew | exact (HW2.out.alloc HW2.out.size _).drew) (Nat.le_refl _); try (have hblk := (hb3.block w2.heap.size (by simp)).trans (heap_alloc_new w2 _); have f0 := frozen_of_row _ _ 0 _ _ hblk; have f1 := frozen_of_row _ _ 1 _ _ hblk; have f2 := frozen_of_row _ _ 2 _ _ hblk; have z0 := cell_of_row _ _ 0 _ _ _ hblk; have z1 := cell_of_row _ _ 1 _ _ _ hblk; have z2 := cell_of_row _ _ 2 _ _ _ hblk; have HBLK := hid hblk; clear hblk); clear hb3
   refine hK.out _ _ (by assumption) (fun hHeld => ?_)
   clear hK K
   try simp only [Act.put, List.setIfInBounds_toArray, List.set_cons_zero, List.set_cons_succ]
   refine wpAnyH_ready (rs := [9]) (by kernel_rfl) (by simp) ?_
   refine AllReadyH.cons (o := { dst := some 4, op := Op.alloc 46, type := 0, pos := "shard.go:177", after := #[], guard := none }) rfl (fun K hK => ?_) AllReadyH.nil
   go_simp; refine hK.out _ _ (by first | exact (HW2.out.alloc HW2.out.size _).drew | exact hq3.alloc hq3.size _) (fun hHeld => ?_)
   clear hK K
   try simp only [Act.put, List.setIfInBounds_toArray, List.set_cons_zero, List.set_cons_succ]
   refine wpAnyH_ready (rs := [10]) (by kernel_rfl) (by simp) ?_
   refine AllReadyH.cons (o := { dst := none, op := Op.store 46 (Operand.tmp 4) (Operand.tmp 26), type := 0, pos := "shard.go:177", after := #[{ on := 9, ground := Ground.data }, { on := 2, ground := Ground.data }, { on := 2, ground := Ground.chain }, { on := 0, ground := Ground.phase }, { on := 1, ground := Ground.phase }, { on := 2, ground := Ground.phase }, { on := 3, ground := Ground.textOnly Departure.lateStores }, { on := 4, ground := Ground.textOnly Departure.lateStores }, { on := 5, ground := Ground.textOnly Departure.lateStores }, { on := 6, ground := Ground.textOnly Departure.lateStores }, { on := 7, ground := Ground.textOnly Departure.lateStores }, { on := 8, ground := Ground.textOnly Departure.lateStores }, { on := 9, ground := Ground.phase }], guard := none }) rfl (fun K hK => ?_) AllReadyH.nil
   go_simp; refine hK.out _ _ (by first | exact hq3.alloc hq3.size _ | exact ((hq3.setCell HW2.out.size _).setCell HW2.out.size _).setCell HW2.out.size _) (fun hHeld => ?_)
   clear hK K
   try simp only [Act.put, List.setIfInBounds_toArray, List.set_cons_zero, List.set_cons_succ]
   refine wpAnyH_take (i := 11) (oi := { dst := some 5, op := Op.assign (Operand.tmp 32), type := 68, pos := "shard.go:177", after := #[{ on := 8, ground := Ground.data }, { on := 10, ground := Ground.chain }, { on := 0, ground := Ground.phase }, { on := 1, ground := Ground.phase }, { on := 2, ground := Ground.phase }, { on := 3, ground := Ground.phase }, { on := 4, ground := Ground.phase }, { on := 5, ground := Ground.phase }, { on := 6, ground := Ground.phase }, { on := 7, ground := Ground.phase }, { on := 8, ground := Ground.phase }, { on := 9, ground := Ground.phase }, { on := 10, ground := Ground.phase }], guard := none }) (v := ?saav11) rfl (by kernel_rfl) (by kernel_rfl) (by kernel_rfl) (fun _ _ _ h => h) (Or.inl ⟨by rfl, ?saah11⟩) (by assumption) ?saar11
   case saah11 => ((intro w hSw; (try dsimp only at hSw); go_simp); try with_reducible rfl)
   try simp only [Act.put, List.setIfInBounds_toArray, List.set_cons_zero, List.set_cons_succ]
   refine wpAnyH_done (by kernel_rfl) ?_ _
   go_wp2_with fail
   go_meet
   first | exact ⟨⟨_, rfl, hq3.size, heap_alloc_new w3 _, hq3.alloc hq3.size _⟩, rfl⟩ | exact ⟨⟨_, rfl, HW2.out.size, heap_setCell_same _ _ 2 _ _ _ (heap_setCell_same _ _ 1 _ _ _ (heap_setCell_same _ _ 0 _ _ _ HBLK.out)), ((hq3.setCell HW2.out.size _).setCell HW2.out.size _).setCell HW2.out.size _⟩, rfl⟩
  refine AllReadyH.cons (o := { dst := some 4, op := Op.alloc 46, type := 0, pos := "shard.go:177", after := #[], guard := none }) rfl (fun K hK => ?_) AllReadyH.nil
  go_simp; refine hK.out _ _ (by first | exact (HW2.out.alloc HW2.out.size _).drew | exact hq3.alloc hq3.size _) (fun hHeld => ?_)
  clear hK K
  try simp only [Act.put, List.setIfInBounds_toArray, List.set_cons_zero, List.set_cons_succ]
  refine wpAnyH_ready (rs := [2]) (by kernel_rfl) (by simp) ?_
  refine AllReadyH.cons (o := { dst := some 26, op := Op.call { callee := Callee.value (Operand.func 25), args := #[Operand.tmp 24, Operand.tmp 25], argTypes := #[26, 3] }, type := 46, pos := "shard.go:177", after := #[{ on := 0, ground := Ground.data }, { on := 1, ground := Ground.data }], guard := none }) rfl (fun K hK => ?_) AllReadyH.nil
  go_simp
  go_at_call 25; (with_reducible refine (HA.out _ (by first | exact HW2.out.drew | exact (HW2.out.alloc HW2.out.size _).drew)).mono ?_); rintro e w3 ⟨rfl, hb3⟩; have hq3 : Below W.heap.size W w3 := below_more hb3 (by first | exact HW2.out.drew | exact (HW2.out.alloc HW2.out.size _).drew) (Nat.le_refl _); try (have hblk := (hb3.block w2.heap.size (by simp)).trans (heap_alloc_new w2 _); have f0 := frozen_of_row _ _ 0 _ _ hblk; have f1 := frozen_of_row _ _ 1 _ _ hblk; have f2 := frozen_of_row _ _ 2 _ _ hblk; have z0 := cell_of_row _ _ 0 _ _ _ hblk; have z1 := cell_of_row _ _ 1 _ _ _ hblk; have z2 := cell_of_row _ _ 2 _ _ _ hblk; have HBLK := hid hblk; clear hblk); clear hb3
  refine hK.out _ _ (by assumption) (fun hHeld => ?_)
  clear hK K
  try simp only [Act.put, List.setIfInBounds_toArray, List.set_cons_zero, List.set_cons_succ]
  refine wpAnyH_ready (rs := [10]) (by kernel_rfl) (by simp) ?_
  refine AllReadyH.cons (o := { dst := none, op := Op.store 46 (Operand.tmp 4) (Operand.tmp 26), type := 0, pos := "shard.go:177", after := #[{ on := 9, ground := Ground.data }, { on := 2, ground := Ground.data }, { on := 2, ground := Ground.chain }, { on := 0, ground := Ground.phase }, { on := 1, ground := Ground.phase }, { on := 2, ground := Ground.phase }, { on := 3, ground := Ground.textOnly Departure.lateStores }, { on := 4, ground := Ground.textOnly Departure.lateStores }, { on := 5, ground := Ground.textOnly Departure.lateStores }, { on := 6, ground := Ground.textOnly Departure.lateStores }, { on := 7, ground := Ground.textOnly Departure.lateStores }, { on := 8, ground := Ground.textOnly Departure.lateStores }, { on := 9, ground := Ground.phase }], guard := none }) rfl (fun K hK => ?_) AllReadyH.nil
  go_simp; refine hK.out _ _ (by first | exact hq3.alloc hq3.size _ | exact ((hq3.setCell HW2.out.size _).setCell HW2.out.size _).setCell HW2.out.size _) (fun hHeld => ?_)
  clear hK K
  try simp only [Act.put, List.setIfInBounds_toArray, List.set_cons_zero, List.set_cons_succ]
  refine wpAnyH_take (i := 11) (oi := { dst := some 5, op := Op.assign (Operand.tmp 32), type := 68, pos := "shard.go:177", after := #[{ on := 8, ground := Ground.data }, { on := 10, ground := Ground.chain }, { on := 0, ground := Ground.phase }, { on := 1, ground := Ground.phase }, { on := 2, ground := Ground.phase }, { on := 3, ground := Ground.phase }, { on := 4, ground := Ground.phase }, { on := 5, ground := Ground.phase }, { on := 6, ground := Ground.phase }, { on := 7, ground := Ground.phase }, { on := 8, ground := Ground.phase }, { on := 9, ground := Ground.phase }, { on := 10, ground := Ground.phase }], guard := none }) (v := ?sabv11) rfl (by kernel_rfl) (by kernel_rfl) (by kernel_rfl) (fun _ _ _ h => h) (Or.inl ⟨by rfl, ?sabh11⟩) (by assumption) ?sabr11
  case sabh11 => ((intro w hSw; (try dsimp only at hSw); go_simp); try with_reducible rfl)
  try simp only [Act.put, List.setIfInBounds_toArray, List.set_cons_zero, List.set_cons_succ]
  refine wpAnyH_done (by kernel_rfl) ?_ _
  go_wp2_with fail
  go_meet
  first | exact ⟨⟨_, rfl, hq3.size, heap_alloc_new w3 _, hq3.alloc hq3.size _⟩, rfl⟩ | exact ⟨⟨_, rfl, HW2.out.size, heap_setCell_same _ _ 2 _ _ _ (heap_setCell_same _ _ 1 _ _ _ (heap_setCell_same _ _ 0 _ _ _ HBLK.out)), ((hq3.setCell HW2.out.size _).setCell HW2.out.size _).setCell HW2.out.size _⟩, rfl⟩
 case rest =>
  obtain ⟨⟨b, rfl, hbz, hbb, hbc⟩, rfl⟩ := hcut
  clear hlk g4
  have HBC := hid hbc
  have HBB := hid hbb
  have hT := HTO.out.is.below hbc
  have htb : t ≠ b := by have := hlt; omega
  have hh1 := hT.head
  obtain ⟨c0, c1, c2, c3, c4, c5, c6, c7, c8⟩ := tab_cells hh1
  have cf8 := frozen_of_row _ _ 8 _ _ hh1
  have HT := hid hT
  clear c0 c1 c2 c3 c4 c5 c6 c7 hh1 hbc hbb hT
  go_upto_region 5 with fail
  obtain ⟨W4, hW4⟩ : ∃ W4, W4 = wc.setCell ⟨t, 8, none⟩ (.int .i64 ((S.steps : Nat) + 1)) := ⟨_, rfl⟩
  rw [← hW4]
  have HO4 : Hid (∀ j, j ≠ t → W4.heap[j]? = wc.heap[j]?) := fun j hj => by rw [hW4]; exact heap_setCell_other _ _ _ _ hj
  have HH4 : Hid (W4.heap[t]? = some (tabO B K (S.steps + 1))) := by
   rw [hW4]
   have e := heap_setCell_same wc t 8 _ _ (.int .i64 ((S.steps : Nat) + 1)) HT.out.head
   have e2 : ((S.steps + 1 : Nat) : Int) = (S.steps : Int) + 1 := by omega
   unfold tabO
   rw [e2]
   exact e
  have HZ4 : Hid (W4.heap.size = wc.heap.size) := by rw [hW4]; simp [Hid]
  have HB4 : Hid (Below base wc W4) := by rw [hW4]; exact (Below.refl _ _).setCell (HTO.out.is.ap t (.inl rfl)).2.1 _
  clear hW4 c8 cf8
  have hgt : B.hb k ≠ t := tag_ne (HT.out.tagHand k hp) HT.out.tagT (by decide)
  have hG4 : W4.heap[B.hb k]? = some (handO (S.hand k) (B.hv k)) := (HO4.out _ hgt).trans (HT.out.hand k hp).2
  have hA4 : W4.heap[b]? = some (.cells #[.int .i64 ak.kind, .string ak.key, .int .i64 ak.value] 46 (0, 0)) := (HO4.out _ (Ne.symm htb)).trans HBB.out
  have hgb : b ≠ B.hb k := by have := (HTO.out.is.ap _ (.inr (.inr (.inr (.inr (.inr (.inr (.inr (.inr ⟨k, hp, rfl⟩))))))))).2.2; omega
  have q1 : W4.cell? ⟨B.hb k, 1, none⟩ = some (.int .i64 ((S.hand k).at_ : Nat)) := cell_of_row _ _ 1 _ _ _ hG4
  rw [hx] at q1
  have HG4' := hid hG4
  have HA4 := hid hA4
  have hbeg : base ≤ B.hb k := (HTO.out.is.ap _ (.inr (.inr (.inr (.inr (.inr (.inr (.inr (.inr ⟨k, hp, rfl⟩))))))))).2.1
  have HV4 : Hid (MapIs Value.string (Value.int .i64) W4 B.bv B.vm) := by
   obtain ⟨es, c, he, F⟩ := HT.out.vals
   exact ⟨es, c, (HO4.out _ (tag_ne (map_tag HT.out.vals) HT.out.tagT (by decide))).trans he, F⟩
  have HD4 : Hid (MapIs Value.string Value.bool W4 B.bt B.tm) := by
   obtain ⟨es, c, he, F⟩ := HT.out.told
   exact ⟨es, c, (HO4.out _ (tag_ne (map_tag HT.out.told) HT.out.tagT (by decide))).trans he, F⟩
  have hmg : B.bt ≠ B.hb k := tag_ne (map_tag HD4.out) (by unfold tagAt; rw [hG4]; rfl) (show (0 : Nat) ≠ 71 + 1 by decide)
  have hmt : B.bt ≠ t := tag_ne (map_tag HD4.out) (by unfold tagAt; rw [HH4.out]; rfl) (show (0 : Nat) ≠ 58 + 1 by decide)
  have hmb : B.bt ≠ b := tag_ne (map_tag HD4.out) (by unfold tagAt; rw [hA4]; rfl) (show (0 : Nat) ≠ 46 + 1 by decide)
  have hog : B.bv ≠ B.hb k := tag_ne (map_tag HV4.out) (by unfold tagAt; rw [hG4]; rfl) (show (0 : Nat) ≠ 71 + 1 by decide)
  have hom : B.bv ≠ B.bt := HT.out.mp.2.2
  have hbl4 : b < W4.heap.size := (Array.getElem?_eq_some_iff.1 hA4).1
  have htl4 : t < W4.heap.size := (Array.getElem?_eq_some_iff.1 HH4.out).1
  have hgl4 : B.hb k < W4.heap.size := (Array.getElem?_eq_some_iff.1 hG4).1
  have hol4 := HV4.out.lt
  go_upto_region 19 with fail
  have a1 : ∀ w', But (fun j => j = B.bt) W4 w' → w'.cell? ⟨b, 1, none⟩ = some (.string ak.key) := fun w' h => (World.cell?_of_block (a := ⟨b, 1, none⟩) (h.keep b hbl4 (Ne.symm hmb))).trans (cell_of_row _ _ 1 _ _ _ hA4)
  have a2 : ∀ w', But (fun j => j = B.bt) W4 w' → w'.cell? ⟨b, 2, none⟩ = some (.int .i64 ak.value) := fun w' h => (World.cell?_of_block (a := ⟨b, 2, none⟩) (h.keep b hbl4 (Ne.symm hmb))).trans (cell_of_row _ _ 2 _ _ _ hA4)
  have a5 : ∀ w', But (fun j => j = B.bt) W4 w' → w'.cell? ⟨t, 6, none⟩ = some (.map (some B.bt)) := fun w' h => (World.cell?_of_block (a := ⟨t, 6, none⟩) (h.keep t htl4 (Ne.symm hmt))).trans (cell_of_row W4 _ 6 _ _ _ HH4.out)
  have HFIN : Hid (∀ w5 : World, MapIs Value.string Value.bool w5 B.bt (aset B.tm ak.key true) → W4.drew.grownBy w5 (some B.bt) → TStep W base t K B (S.stepN K k) (.returned (.tuple #[])) (w5.setCell ⟨B.hb k, 1, none⟩ (.int .i64 4))) := fun w5 hm5 hg5 => by
   have hsi : S.stepN K k = S.poke k { S.hand k with at_ := 4 } (S.rows.map (tellR ak.key)) (S.steps + 1) := by
    rw [step_is hcan]; unfold Sh.body; simp only [hx, HAK.out]; rfl
   have hk5 : ∀ j, j < W4.heap.size → j ≠ B.bt → w5.heap[j]? = W4.heap[j]? := fun j hl hj => hg5.block j hl (fun e => hj (Option.some.inj e))
   have hG5 : w5.heap[B.hb k]? = some (handO (S.hand k) (B.hv k)) := (hk5 _ hgl4 (Ne.symm hmg)).trans HG4'.out
   have hbm := (HTO.out.is.ap B.bt (.inr (.inr (.inr (.inl rfl))))).2.1
   have hO5 : MapIs Value.string (Value.int .i64) (w5.setCell ⟨B.hb k, 1, none⟩ (.int .i64 4)) B.bv B.vm := by
    obtain ⟨es, c, he, F⟩ := HV4.out
    exact ⟨es, c, ((heap_setCell_other _ _ _ _ hog).trans (hk5 _ hol4 hom)).trans he, F⟩
   have hM5 : MapIs Value.string Value.bool (w5.setCell ⟨B.hb k, 1, none⟩ (.int .i64 4)) B.bt (aset B.tm ak.key true) := by
    obtain ⟨es, c, he, F⟩ := hm5
    exact ⟨es, c, (heap_setCell_other _ _ _ _ hmg).trans he, F⟩
   obtain ⟨t1, t2, t3, t4⟩ := (HTO.out.ok.each k hk).three hx
   rw [HAK.out] at t1 t2 t4
   refine TStep.poked (TabIs.shLt HK) HTO.out hk hp HBC.out { S.hand k with at_ := 4 } (B.hv k) (S.rows.map (tellR ak.key)) B.vm (aset B.tm ak.key true) hsi (by simp) ?_ ?_ ?_ ?_ ?_ hO5 ?_ hM5 ?_
   ·intro _ hf
    have hf : (S.hand k).found = true := hf
    rw [t3] at hf; cases hf
   ·refine ⟨fun j hl hj => ?_, by have h1 : W4.heap.size ≤ w5.heap.size := hg5.size; have h2 := HZ4.out; simp; omega⟩
    rw [heap_setCell_other _ _ _ _ (fun e => hj (.inr (.inl e)))]
    exact (hk5 j (by rw [HZ4.out]; exact hl) (fun e => hj (.inr (.inr (.inr e))))).trans (HO4.out j (fun e => hj (.inl e)))
   ·exact (HB4.out.trans ((Below.refl _ W4).drew.grown hg5 (show base ≤ W4.heap.size by omega) (fun x e => by cases e; exact hbm))).setCell hbeg _
   ·exact ((heap_setCell_other _ _ _ _ (Ne.symm hgt)).trans (hk5 t htl4 (Ne.symm hmt))).trans HH4.out
   ·exact heap_setCell_same _ _ 1 _ _ _ hG5
   ·intro key
    rw [HTO.out.is.valIs key]
    exact (get_tell (S := S) ak.key key { S with rows := S.rows.map (tellR ak.key) } rfl).symm
   ·intro key
    have h0 := HTO.out.is.toldIs key
    have h1 := told_tell (S := S) ak.key key { S with rows := S.rows.map (tellR ak.key) } rfl
    rw [alook_set]
    refine Eq.trans ?_ h1.symm
    by_cases e : key = ak.key
    ·subst e; rw [if_pos rfl, if_pos rfl, t2]; rfl
    ·rw [if_neg e, if_neg e]; exact h0
  have HM4' : Hid (MapIs Value.string Value.bool W4.drew B.bt B.tm) := HD4.out
  have HK4 : Hid (∀ w5, W4.drew.grownBy w5 (some B.bt) → (But (fun j => j = B.bt) W4 w5 ∧ w5.cell? ⟨B.hb k, 1, none⟩ = some (.int .i64 ((S.hand k).at_ : Nat)) ∧ w5.frozen? ⟨B.hb k, 1, none⟩ = false)) := fun w5 hg5 => by
   have hk5 : ∀ j, j < W4.heap.size → j ≠ B.bt → w5.heap[j]? = W4.heap[j]? := fun j hl hj => hg5.block j hl (fun e => hj (Option.some.inj e))
   have hG5 : w5.heap[B.hb k]? = some (handO (S.hand k) (B.hv k)) := (hk5 _ hgl4 (Ne.symm hmg)).trans HG4'.out
   exact ⟨⟨fun j hl hj => hk5 j hl hj, hg5.size⟩, cell_of_row _ _ 1 _ _ _ hG5, frozen_of_row _ _ 1 _ _ hG5⟩
  clear hG4 hA4
  have hS4 : But (fun j => j = B.bt) W4 W4.drew := ⟨fun _ _ _ => rfl, Nat.le_refl _⟩
  refine wp_region_held_drew (S := fun w' => But (fun j => j = B.bt) W4 w') (by kernel_rfl) hS4 (fun hHeld => ?_)
  refine wpAnyH_take (i := 0) (oi := { dst := some 117, op := Op.move (Operand.tmp 0), type := 26, pos := "shard.go:193", after := #[], guard := none }) (v := ?smv0) rfl (by kernel_rfl) (by kernel_rfl) (by kernel_rfl) (fun _ _ _ h => h) (Or.inl ⟨by rfl, ?smh0⟩) (by assumption) ?smr0
  case smh0 => ((intro w hSw; (try dsimp only at hSw); go_simp); try with_reducible rfl)
  try simp only [Act.put, List.setIfInBounds_toArray, List.set_cons_zero, List.set_cons_succ]
  refine wpAnyH_take (i := 1) (oi := { dst := some 118, op := Op.nilCheck (Operand.tmp 117), type := 0, pos := "shard.go:193", after := #[{ on := 0, ground := Ground.data }], guard := none }) (v := ?smv1) rfl (by kernel_rfl) (by kernel_rfl) (by kernel_rfl) (fun _ _ _ h => h) (Or.inl ⟨by rfl, ?smh1⟩) (by assumption) ?smr1
  case smh1 => ((intro w hSw; (try dsimp only at hSw); go_simp); try with_reducible rfl)
  try simp only [Act.put, List.setIfInBounds_toArray, List.set_cons_zero, List.set_cons_succ]
  refine wpAnyH_take (i := 2) (oi := { dst := some 119, op := Op.fieldAddr 58 (Operand.tmp 118) 6, type := 0, pos := "shard.go:193", after := #[{ on := 1, ground := Ground.data }], guard := none }) (v := ?smv2) rfl (by kernel_rfl) (by kernel_rfl) (by kernel_rfl) (fun _ _ _ h => h) (Or.inl ⟨by rfl, ?smh2⟩) (by assumption) ?smr2
  case smh2 => ((intro w hSw; (try dsimp only at hSw); go_simp); try with_reducible rfl)
  try simp only [Act.put, List.setIfInBounds_toArray, List.set_cons_zero, List.set_cons_succ]
  refine wpAnyH_take (i := 3) (oi := { dst := some 120, op := Op.load 55 (Operand.tmp 119), type := 55, pos := "shard.go:193", after := #[{ on := 2, ground := Ground.data }], guard := none }) (v := ?smv3) rfl (by kernel_rfl) (by kernel_rfl) (by kernel_rfl) (fun _ _ _ h => h) (Or.inl ⟨by rfl, ?smh3⟩) (by assumption) ?smr3
  case smh3 => ((intro w hSw; (try dsimp only at hSw); go_simp); try with_reducible rfl)
  try simp only [Act.put, List.setIfInBounds_toArray, List.set_cons_zero, List.set_cons_succ]
  refine wpAnyH_take (i := 4) (oi := { dst := some 121, op := Op.fieldAddr 46 (Operand.tmp 4) 1, type := 0, pos := "shard.go:193", after := #[], guard := none }) (v := ?smv4) rfl (by kernel_rfl) (by kernel_rfl) (by kernel_rfl) (fun _ _ _ h => h) (Or.inl ⟨by rfl, ?smh4⟩) (by assumption) ?smr4
  case smh4 => ((intro w hSw; (try dsimp only at hSw); go_simp); try with_reducible rfl)
  try simp only [Act.put, List.setIfInBounds_toArray, List.set_cons_zero, List.set_cons_succ]
  refine wpAnyH_take (i := 5) (oi := { dst := some 122, op := Op.load 9 (Operand.tmp 121), type := 9, pos := "shard.go:193", after := #[{ on := 4, ground := Ground.data }], guard := none }) (v := ?smv5) rfl (by kernel_rfl) (by kernel_rfl) (by kernel_rfl) (fun _ _ _ h => h) (Or.inl ⟨by rfl, ?smh5⟩) (by assumption) ?smr5
  case smh5 => ((intro w hSw; (try dsimp only at hSw); go_simp); try with_reducible rfl)
  try simp only [Act.put, List.setIfInBounds_toArray, List.set_cons_zero, List.set_cons_succ]
  refine wpAnyH_ready (rs := [6]) (by kernel_rfl) (by simp) ?_
  refine AllReadyH.cons (o := { dst := none, op := Op.mapUpdate 55 (Operand.tmp 120) (Operand.tmp 122) (Operand.const (Value.bool true)), type := 0, pos := "shard.go:193", after := #[{ on := 3, ground := Ground.data }, { on := 5, ground := Ground.data }, { on := 0, ground := Ground.phase }, { on := 1, ground := Ground.phase }, { on := 2, ground := Ground.phase }, { on := 3, ground := Ground.phase }, { on := 4, ground := Ground.phase }, { on := 5, ground := Ground.phase }], guard := none }) rfl (fun K hK => ?_) AllReadyH.nil
  (refine step_mapset KStr Tryz.underlying55 rfl (.tmp 120) (.tmp 122) (.const (.bool true)) (.inl rfl) B.bt B.tm rfl HM4'.out ak.key rfl true rfl ?_); intro w5 hm5 hg5; have HM5 := hid hm5; have HG5 := hid hg5; obtain ⟨hs5, y1, yf⟩ := HK4.out w5 hg5; clear hm5 hg5; refine hK.out _ _ hs5 (fun hHeld => ?_)
  clear hK K
  try simp only [Act.put, List.setIfInBounds_toArray, List.set_cons_zero, List.set_cons_succ]
  refine wpAnyH_done (by kernel_rfl) ?_ _
  go_wp2_with fail
  refine bodyPost_end (v := .tuple #[]) (by simp [results, Tryz.results7, go_sem]) rfl ?_
  exact HFIN.out w5 HM5.out HG5.out
end Go.Proofs.YtabkmdhkfbcldaaGreat
