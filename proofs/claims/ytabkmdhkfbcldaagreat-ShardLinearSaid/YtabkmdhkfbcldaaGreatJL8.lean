/-
 Step: the walk, state 5.
 Step: what a step with the lock comes to.
 Step: the walk, state 4.
-/
import Derived.Test.YtabkmdhkfbcldaaGreatJL6
namespace Go.Proofs.YtabkmdhkfbcldaaGreat
open Go.RowKit
variable {W W' : World} {base t : Nat} {K : Wk} {S : Sh} {B : TB}
set_option maxRecDepth 20000 in
set_option maxHeartbeats 2000000 in
theorem step5_any (H : TOk W base t K S B) (HK : WkOk K) (k : Nat) (hk : k < K.work.length) (hcan : S.canN K k = true) (hx : (S.hand k).at_ = 5) (hst : S.steps ≤ 1000000) (hsz : (K.own k).length ≤ 1000000) :
  Calls Tryz.prog 7 #[.pointer (some ⟨t, 0, none⟩), .int .i64 (k : Nat)] W (TStep W base t K B (S.stepN K k)) := by
 have HTO := hid H
 have hn := H.ok.nx hk (can_facts hcan).1
 have hp : B.pr k = true := by
  cases e : B.pr k with
  | true => rfl
  | false => have := (H.is.free k e).2; omega
 have HD := hid (done_any H.is (k : Int))
 have hdf : S.doneI K (k : Int) = false := by
  unfold Sh.doneI
  rw [Int.toNat_natCast, (can_facts hcan).1]
  simp; omega
 have HW := hid (fun (w1 : World) (hb : Below W.heap.size W w1) => twaits_any (H.is.below hb) HK (k : Int))
 have hwf : S.waitsI K (k : Int) = false := by unfold Sh.waitsI; rw [Int.toNat_natCast, (can_facts hcan).2, hdf]; rfl
 rw [hwf] at HW
 rw [hdf] at HD
 have HA := hid (fun (w1 : World) (hb : Below W.heap.size W w1) => ask_any (H.is.below hb) k hk hn)
 have HM := hid (fun (w1 : World) (hb : Below W.heap.size W w1) => H.is.hands.below hb H.is.hands.lt)
 have HL := hid (H.is.hand k hp).1
 have HZ := hid (fun w1 : World => (show (zeroValue 68).run Tryz.prog w1 = .ok (.pointer none) w1 by kernel_rfl))
 have hlt := (Array.getElem?_eq_some_iff.1 H.is.head).1
 obtain ⟨c0, c1, c2, c3, c4, c5, c6, c7, c8⟩ := tab_cells H.is.head
 have g4 : ∀ w', Below W.heap.size W w' → w'.cell? ⟨t, 4, none⟩ = some (.map (some B.bh)) := fun w' hb => (hb.cell (p := ⟨t, 4, none⟩) hlt).trans c4
 have HG4 := hid g4
 generalize hak : S.ask K k = ak at HA
 have HAK := hid hak
 clear hak hdf hwf c0 c1 c2 c3 c4 c5 c6 c7 c8 H g4
 go_enter Tryz.func7, Tryz.ntmps7
 go_upto_region 3 with (first
  | (go_at_call 17; (with_reducible refine HD.out.mono ?_); rintro e w1 ⟨rfl, q1, rfl⟩)
  | (go_at_call 23; (with_reducible refine (HW.out _ (below_drewN (Below.refl _ _) q1)).mono ?_); rintro e w2 ⟨rfl, hb2⟩; have HB2 := hid (below_more hb2 (below_drewN (Below.refl _ _) q1) (Nat.le_refl _)); clear hb2; have G4 := HG4.out w2 HB2.out)
  | ((with_reducible show wpList _ _ _ (⟨some 19, _, _, _, _, _⟩ :: _) _ _); refine wpList_maplook KInt Tryz.underlying53 rfl (.tmp 17) (.tmp 18) false rfl (.pointer none) (HZ.out _) B.bh B.hm rfl (HM.out _ HB2.out) (k : Int) rfl ?_; rw [HL.out]))
 have HW2 : Hid (Below W.heap.size W w2) := HB2.out
 have g4 := HG4.out
 have hlk : ∀ w', Below W.heap.size W w' → (Instr.lookup 53 (.map (some B.bh)) (.int .i64 (k : Nat)) false).run Tryz.prog w' = .ok (.pointer (some ⟨B.hb k, 0, none⟩)) w' := fun w' hb => by
  have hr := (HM.out w' hb).run_lookup KInt Tryz.underlying53 (HZ.out w') (k : Int) false
  rw [HL.out] at hr
  exact hr
 go_cut [4, 5] (fun v c wx => AkV W ak v wx ∧ c = .pointer (some ⟨B.hb k, 0, none⟩))
 case first =>
  refine wp_region_held_drew (S := fun w' => Below W.heap.size W w') (by kernel_rfl) HW2.out.drew (fun hHeld => ?_)
  refine wpAnyH_take (i := 0) (oi := { dst := some 24, op := Op.move (Operand.tmp 0), type := 26, pos := "shard.go:177", after := #[], guard := none }) (v := ?sav0) rfl (by kernel_rfl) (by kernel_rfl) (by kernel_rfl) (fun _ _ _ h => h) (Or.inl ⟨by rfl, ?sah0⟩) (by assumption) ?sar0
  case sah0 => ((intro w hSw; (try dsimp only at hSw); go_simp); try with_reducible rfl)
  try simp only [Act.put, List.setIfInBounds_toArray, List.set_cons_zero, List.set_cons_succ]
  refine wpAnyH_take (i := 1) (oi := { dst := some 25, op := Op.move (Operand.tmp 1), type := 3, pos := "shard.go:177", after := #[], guard := none }) (v := ?sav1) rfl (by kernel_rfl) (by kernel_rfl) (by kernel_rfl) (fun _ _ _ h => h) (Or.inl ⟨by rfl, ?sah1⟩) (by assumption) ?sar1
  case sah1 => ((intro w hSw; (try dsimp only at hSw); go_simp); try with_reducible rfl)
  try simp only [Act.put, List.setIfInBounds_toArray, List.set_cons_zero, List.set_cons_succ]
  refine wpAnyH_take (i := 3) (oi := { dst := some 27, op := Op.move (Operand.tmp 0), type := 26, pos := "shard.go:177", after := #[{ on := 10, ground := Ground.gcOnly Departure.lateStores }], guard := none }) (v := ?sav3) rfl (by kernel_rfl) (by kernel_rfl) (by kernel_rfl) (fun _ _ _ h => h) (Or.inl ⟨by rfl, ?sah3⟩) (by assumption) ?sar3
  case sah3 => ((intro w hSw; (try dsimp only at hSw); go_simp); try with_reducible rfl)
  try simp only [Act.put, List.setIfInBounds_toArray, List.set_cons_zero, List.set_cons_succ]
  refine wpAnyH_take (i := 4) (oi := { dst := some 28, op := Op.nilCheck (Operand.tmp 27), type := 0, pos := "shard.go:177", after := #[{ on := 3, ground := Ground.data }, { on := 10, ground := Ground.gcOnly Departure.lateStores }], guard := none }) (v := ?sav4) rfl (by kernel_rfl) (by kernel_rfl) (by kernel_rfl) (fun _ _ _ h => h) (Or.inl ⟨by rfl, ?sah4⟩) (by assumption) ?sar4
  case sah4 => ((intro w hSw; (try dsimp only at hSw); go_simp); try with_reducible rfl)
  try simp only [Act.put, List.setIfInBounds_toArray, List.set_cons_zero, List.set_cons_succ]
  refine wpAnyH_take (i := 5) (oi := { dst := some 29, op := Op.fieldAddr 58 (Operand.tmp 28) 4, type := 0, pos := "shard.go:177", after := #[{ on := 4, ground := Ground.data }, { on := 10, ground := Ground.gcOnly Departure.lateStores }], guard := none }) (v := ?sav5) rfl (by kernel_rfl) (by kernel_rfl) (by kernel_rfl) (fun _ _ _ h => h) (Or.inl ⟨by rfl, ?sah5⟩) (by assumption) ?sar5
  case sah5 => ((intro w hSw; (try dsimp only at hSw); go_simp); try with_reducible rfl)
  try simp only [Act.put, List.setIfInBounds_toArray, List.set_cons_zero, List.set_cons_succ]
  refine wpAnyH_take (i := 6) (oi := { dst := some 30, op := Op.load 53 (Operand.tmp 29), type := 53, pos := "shard.go:177", after := #[{ on := 5, ground := Ground.data }, { on := 10, ground := Ground.gcOnly Departure.lateStores }], guard := none }) (v := ?sav6) rfl (by kernel_rfl) (by kernel_rfl) (by kernel_rfl) (fun _ _ _ h => h) (Or.inl ⟨by rfl, ?sah6⟩) (by assumption) ?sar6
  case sah6 => ((intro w hSw; (try dsimp only at hSw); go_simp); try with_reducible rfl)
  try simp only [Act.put, List.setIfInBounds_toArray, List.set_cons_zero, List.set_cons_succ]
  refine wpAnyH_take (i := 7) (oi := { dst := some 31, op := Op.move (Operand.tmp 1), type := 3, pos := "shard.go:177", after := #[{ on := 10, ground := Ground.gcOnly Departure.lateStores }], guard := none }) (v := ?sav7) rfl (by kernel_rfl) (by kernel_rfl) (by kernel_rfl) (fun _ _ _ h => h) (Or.inl ⟨by rfl, ?sah7⟩) (by assumption) ?sar7
  case sah7 => ((intro w hSw; (try dsimp only at hSw); go_simp); try with_reducible rfl)
  try simp only [Act.put, List.setIfInBounds_toArray, List.set_cons_zero, List.set_cons_succ]
  refine wpAnyH_take (i := 8) (oi := { dst := some 32, op := Op.lookup 53 (Operand.tmp 30) (Operand.tmp 31) false, type := 68, pos := "shard.go:177", after := #[{ on := 6, ground := Ground.data }, { on := 7, ground := Ground.data }, { on := 10, ground := Ground.gcOnly Departure.lateStores }], guard := none }) (v := ?sav8) rfl (by kernel_rfl) (by kernel_rfl) (by kernel_rfl) (fun _ _ _ h => h) (Or.inl ⟨by rfl, ?sah8⟩) (by assumption) ?sar8
  case sah8 => ((intro w hSw; (try dsimp only at hSw); go_simp); try with_reducible rfl)
  try simp only [Act.put, List.setIfInBounds_toArray, List.set_cons_zero, List.set_cons_succ]
  refine wpAnyH_ready (rs := [2, 9]) (by kernel_rfl) (by simp) ?_
  refine AllReadyH.cons (o := { dst := some 26, op := Op.call { callee := Callee.value (Operand.func 25), args := #[Operand.tmp 24, Operand.tmp 25], argTypes := #[26, 3] }, type := 46, pos := "shard.go:177", after := #[{ on := 0, ground := Ground.data }, { on := 1, ground := Ground.data }], guard := none }) rfl (fun K hK => ?_) ?_
  ·go_simp
   go_at_call 25; (with_reducible refine (HA.out _ (by first | exact HW2.out.drew | exact (HW2.out.alloc HW2.out.size _).drew)).mono ?_); rintro e w3 ⟨rfl, hb3⟩; have hq3 : Below W.heap.size W w3 := below_more hb3 (by first | exact HW2.out.drew | exact (HW2.out.alloc HW2.out.size _).drew) (Nat.le_refl _); try (have hblk := (hb3.block w2.heap.size (by simp)).trans (heap_alloc_new w2 _); have f0 := frozen_of_row _ _ 0 _ _ hblk; have f1 := frozen_of_row _ _ 1 _ _ hblk; have f2 := frozen_of_row _ _ 2 _ _ hblk; have z0 := cell_of_row _ _ 0 _ _ _ hblk; have z1 := cell_of_row _ _ 1 _ _ _ hblk; have z2 := cell_of_row _ _ 2 _ _ _ hblk; have HBLK := hid hblk; clear hblk); clear hb3
   refine hK.out _ _ (by assumption) (fun hHeld => ?_)
   clear hK K
   try simp only [Act.put, List.setIfInBounds_toArray, List.set_cons_zero, List.set_cons_succ]
   refine wpAnyH_ready (rs := [9]) (by kernel_rfl) (by simp) ?_
   refine AllReadyH.cons (o := { dst := some 4, op := Op.alloc 46, type := 0, pos := "shard.go:177", after := #[], guard := none }) rfl (fun K hK => ?_) AllReadyH.nil
   go_simp; refine hK.out _ _ (by first | exact (HW2.out.alloc HW2.out.size _).drew | exact hq3.alloc hq3.size _) (fun hHeld => ?_)
   clear hK K
   try simp only [Act.put, List.setIfInBounds_toArray, List.set_cons_zero, List.set_cons_succ]
   refine wpAnyH_ready (rs := [10]) (by kernel_rfl) (by simp) ?_
   refine AllReadyH.cons (o := { dst := none, op := Op.store 46 (Operand.tmp 4) (Operand.tmp 26), type := 0, pos := "shard.go:177", after := #[{ on := 9, ground := Ground.data }, { on := 2, ground := Ground.data }, { on := 2, ground := Ground.chain }, { on := 0, ground := Ground.phase }, { on := 1, ground := Ground.phase }, { on := 2, ground := Ground.phase }, { on := 3, ground := Ground.textOnly Departure.lateStores }, { on := 4, ground := Ground.textOnly Departure.lateStores }, { on := 5, ground := Ground.textOnly Departure.lateStores }, { on := 6, ground := Ground.textOnly Departure.lateStores }, { on := 7, ground := Ground.textOnly Departure.lateStores }, { on := 8, ground := Ground.textOnly Departure.lateStores }, { on := 9, ground := Ground.phase }], guard := none }) rfl (fun K hK => ?_) AllReadyH.nil
   go_simp; refine hK.out _ _ (by first | exact hq3.alloc hq3.size _ | exact ((hq3.setCell HW2.out.size _).setCell HW2.out.size _).setCell HW2.out.size _) (fun hHeld => ?_)
   clear hK K
   try simp only [Act.put, List.setIfInBounds_toArray, List.set_cons_zero, List.set_cons_succ]
   refine wpAnyH_take (i := 11) (oi := { dst := some 5, op := Op.assign (Operand.tmp 32), type := 68, pos := "shard.go:177", after := #[{ on := 8, ground := Ground.data }, { on := 10, ground := Ground.chain }, { on := 0, ground := Ground.phase }, { on := 1, ground := Ground.phase }, { on := 2, ground := Ground.phase }, { on := 3, ground := Ground.phase }, { on := 4, ground := Ground.phase }, { on := 5, ground := Ground.phase }, { on := 6, ground := Ground.phase }, { on := 7, ground := Ground.phase }, { on := 8, ground := Ground.phase }, { on := 9, ground := Ground.phase }, { on := 10, ground := Ground.phase }], guard := none }) (v := ?saav11) rfl (by kernel_rfl) (by kernel_rfl) (by kernel_rfl) (fun _ _ _ h => h) (Or.inl ⟨by rfl, ?saah11⟩) (by assumption) ?saar11
   case saah11 => ((intro w hSw; (try dsimp only at hSw); go_simp); try with_reducible rfl)
   try simp only [Act.put, List.setIfInBounds_toArray, List.set_cons_zero, List.set_cons_succ]
   refine wpAnyH_done (by kernel_rfl) ?_ _
   go_wp2_with fail
   go_meet
   first | exact ⟨⟨_, rfl, hq3.size, heap_alloc_new w3 _, hq3.alloc hq3.size _⟩, rfl⟩ | exact ⟨⟨_, rfl, HW2.out.size, heap_setCell_same _ _ 2 _ _ _ (heap_setCell_same _ _ 1 _ _ _ (heap_setCell_same _ _ 0 _ _ _ HBLK.out)), ((hq3.setCell HW2.out.size _).setCell HW2.out.size _).setCell HW2.out.size _⟩, rfl⟩
  refine AllReadyH.cons (o := { dst := some 4, op := Op.alloc 46, type := 0, pos := "shard.go:177", after := #[], guard := none }) rfl (fun K hK => ?_) AllReadyH.nil
  go_simp; refine hK.out _ _ (by first | exact (HW2.out.alloc HW2.out.size _).drew | exact hq3.alloc hq3.size _) (fun hHeld => ?_)
  clear hK K
  try simp only [Act.put, List.setIfInBounds_toArray, List.set_cons_zero, List.set_cons_succ]
  refine wpAnyH_ready (rs := [2]) (by kernel_rfl) (by simp) ?_
  refine AllReadyH.cons (o := { dst := some 26, op := Op.call { callee := Callee.value (Operand.func 25), args := #[Operand.tmp 24, Operand.tmp 25], argTypes := #[26, 3] }, type := 46, pos := "shard.go:177", after := #[{ on := 0, ground := Ground.data }, { on := 1, ground := Ground.data }], guard := none }) rfl (fun K hK => ?_) AllReadyH.nil
  go_simp
  go_at_call 25; (with_reducible refine (HA.out _ (by first | exact HW2.out.drew | exact (HW2.out.alloc HW2.out.size _).drew)).mono ?_); rintro e w3 ⟨rfl, hb3⟩; have hq3 : Below W.heap.size W w3 := below_more hb3 (by first | exact HW2.out.drew | exact (HW2.out.alloc HW2.out.size _).drew) (Nat.le_refl _); try (have hblk := (hb3.block w2.heap.size (by simp)).trans (heap_alloc_new w2 _); have f0 := frozen_of_row _ _ 0 _ _ hblk; have f1 := frozen_of_row _ _ 1 _ _ hblk; have f2 := frozen_of_row _ _ 2 _ _ hblk; have z0 := cell_of_row _ _ 0 _ _ _ hblk; have z1 := cell_of_row _ _ 1 _ _ _ hblk; have z2 := cell_of_row _ _ 2 _ _ _ hblk; have HBLK := hid hblk; clear hblk); clear hb3
  refine hK.out _ _ (by assumption) (fun hHeld => ?_)
  clear hK K
  try simp only [Act.put, List.setIfInBounds_toArray, List.set_cons_zero, List.set_cons_succ]
  refine wpAnyH_ready (rs := [10]) (by kernel_rfl) (by simp) ?_
  refine AllReadyH.cons (o := { dst := none, op := Op.store 46 (Operand.tmp 4) (Operand.tmp 26), type := 0, pos := "shard.go:177", after := #[{ on := 9, ground := Ground.data }, { on := 2, ground := Ground.data }, { on := 2, ground := Ground.chain }, { on := 0, ground := Ground.phase }, { on := 1, ground := Ground.phase }, { on := 2, ground := Ground.phase }, { on := 3, ground := Ground.textOnly Departure.lateStores }, { on := 4, ground := Ground.textOnly Departure.lateStores }, { on := 5, ground := Ground.textOnly Departure.lateStores }, { on := 6, ground := Ground.textOnly Departure.lateStores }, { on := 7, ground := Ground.textOnly Departure.lateStores }, { on := 8, ground := Ground.textOnly Departure.lateStores }, { on := 9, ground := Ground.phase }], guard := none }) rfl (fun K hK => ?_) AllReadyH.nil
  go_simp; refine hK.out _ _ (by first | exact hq3.alloc hq3.size _ | exact ((hq3.setCell HW2.out.size _).setCell HW2.out.size _).setCell HW2.out.size _) (fun hHeld => ?_)
  clear hK K
  try simp only [Act.put, List.setIfInBounds_toArray, List.set_cons_zero, List.set_cons_succ]
  refine wpAnyH_take (i := 11) (oi := { dst := some 5, op := Op.assign (Operand.tmp 32), type := 68, pos := "shard.go:177", after := #[{ on := 8, ground := Ground.data }, { on := 10, ground := Ground.chain }, { on := 0, ground := Ground.phase }, { on := 1, ground := Ground.phase }, { on := 2, ground := Ground.phase }, { on := 3, ground := Ground.phase }, { on := 4, ground := Ground.phase }, { on := 5, ground := Ground.phase }, { on := 6, ground := Ground.phase }, { on := 7, ground := Ground.phase }, { on := 8, ground := Ground.phase }, { on := 9, ground := Ground.phase }, { on := 10, ground := Ground.phase }], guard := none }) (v := ?sabv11) rfl (by kernel_rfl) (by kernel_rfl) (by kernel_rfl) (fun _ _ _ h => h) (Or.inl ⟨by rfl, ?sabh11⟩) (by assumption) ?sabr11
  case sabh11 => ((intro w hSw; (try dsimp only at hSw); go_simp); try with_reducible rfl)
  try simp only [Act.put, List.setIfInBounds_toArray, List.set_cons_zero, List.set_cons_succ]
  refine wpAnyH_done (by kernel_rfl) ?_ _
  go_wp2_with fail
  go_meet
  first | exact ⟨⟨_, rfl, hq3.size, heap_alloc_new w3 _, hq3.alloc hq3.size _⟩, rfl⟩ | exact ⟨⟨_, rfl, HW2.out.size, heap_setCell_same _ _ 2 _ _ _ (heap_setCell_same _ _ 1 _ _ _ (heap_setCell_same _ _ 0 _ _ _ HBLK.out)), ((hq3.setCell HW2.out.size _).setCell HW2.out.size _).setCell HW2.out.size _⟩, rfl⟩
 case rest =>
  obtain ⟨⟨b, rfl, hbz, hbb, hbc⟩, rfl⟩ := hcut
  clear hlk g4
  have HBC := hid hbc
  have HBB := hid hbb
  have hT := HTO.out.is.below hbc
  have htb : t ≠ b := by have := hlt; omega
  have hh1 := hT.head
  obtain ⟨c0, c1, c2, c3, c4, c5, c6, c7, c8⟩ := tab_cells hh1
  have cf8 := frozen_of_row _ _ 8 _ _ hh1
  have HT := hid hT
  clear c0 c1 c2 c3 c4 c5 c6 c7 hh1 hbc hbb hT
  go_upto_region 5 with fail
  obtain ⟨W4, hW4⟩ : ∃ W4, W4 = wc.setCell ⟨t, 8, none⟩ (.int .i64 ((S.steps : Nat) + 1)) := ⟨_, rfl⟩
  rw [← hW4]
  have HO4 : Hid (∀ j, j ≠ t → W4.heap[j]? = wc.heap[j]?) := fun j hj => by rw [hW4]; exact heap_setCell_other _ _ _ _ hj
  have HH4 : Hid (W4.heap[t]? = some (tabO B K (S.steps + 1))) := by
   rw [hW4]
   have e := heap_setCell_same wc t 8 _ _ (.int .i64 ((S.steps : Nat) + 1)) HT.out.head
   have e2 : ((S.steps + 1 : Nat) : Int) = (S.steps : Int) + 1 := by omega
   unfold tabO
   rw [e2]
   exact e
  have HZ4 : Hid (W4.heap.size = wc.heap.size) := by rw [hW4]; simp [Hid]
  have HB4 : Hid (Below base wc W4) := by rw [hW4]; exact (Below.refl _ _).setCell (HTO.out.is.ap t (.inl rfl)).2.1 _
  clear hW4 c8 cf8
  have hgt : B.hb k ≠ t := tag_ne (HT.out.tagHand k hp) HT.out.tagT (by decide)
  have hG4 : W4.heap[B.hb k]? = some (handO (S.hand k) (B.hv k)) := (HO4.out _ hgt).trans (HT.out.hand k hp).2
  have hA4 : W4.heap[b]? = some (.cells #[.int .i64 ak.kind, .string ak.key, .int .i64 ak.value] 46 (0, 0)) := (HO4.out _ (Ne.symm htb)).trans HBB.out
  have hgb : b ≠ B.hb k := by have := (HTO.out.is.ap _ (.inr (.inr (.inr (.inr (.inr (.inr (.inr (.inr ⟨k, hp, rfl⟩))))))))).2.2; omega
  have q1 : W4.cell? ⟨B.hb k, 1, none⟩ = some (.int .i64 ((S.hand k).at_ : Nat)) := cell_of_row _ _ 1 _ _ _ hG4
  rw [hx] at q1
  have HG4' := hid hG4
  have HA4 := hid hA4
  have hbeg : base ≤ B.hb k := (HTO.out.is.ap _ (.inr (.inr (.inr (.inr (.inr (.inr (.inr (.inr ⟨k, hp, rfl⟩))))))))).2.1
  have HV4 : Hid (MapIs Value.string (Value.int .i64) W4 B.bv B.vm) := by
   obtain ⟨es, c, he, F⟩ := HT.out.vals
   exact ⟨es, c, (HO4.out _ (tag_ne (map_tag HT.out.vals) HT.out.tagT (by decide))).trans he, F⟩
  have HD4 : Hid (MapIs Value.string Value.bool W4 B.bt B.tm) := by
   obtain ⟨es, c, he, F⟩ := HT.out.told
   exact ⟨es, c, (HO4.out _ (tag_ne (map_tag HT.out.told) HT.out.tagT (by decide))).trans he, F⟩
  have hnl : S.next.getD k 0 < (K.own k).length := hn
  have hbl4 : b < W4.heap.size := (Array.getElem?_eq_some_iff.1 hA4).1
  have htl4 : t < W4.heap.size := (Array.getElem?_eq_some_iff.1 HH4.out).1
  have HT4 : Hid (TabIs W4 base t K { S with steps := S.steps + 1 } B) := by
   have e := HT.out.poked k hk hp (S.hand k) (B.hv k) (S.steps + 1) S.rows B.vm B.tm (W' := W4) ⟨fun j _ hj => HO4.out j (fun e => hj (.inl e)), by rw [HZ4.out]; exact Nat.le_refl _⟩ HH4.out hG4 HV4.out HTO.out.is.valIs HD4.out HTO.out.is.toldIs
   rw [poke_self, pokeS_self S k (by rw [HTO.out.ok.hnl]; exact hk)] at e
   exact e
  have hcall := ((HTO.out.ok.each k hk).inh (by omega)).2.1
  go_upto_region 6 with fail
  have HE := hid (ends_any (HT4.out.below (Below.refl _ W4).drew) k hk hp hnl hcall hsz ((S.get ak.key).getD 0) 0)
  have hHeld0 : W4.drew.heap[t]? = some (tabO B K (S.steps + 1)) ∧ W4.drew.heap[b]? = some (.cells #[.int .i64 ak.kind, .string ak.key, .int .i64 ak.value] 46 (0, 0)) ∧ MapIs Value.string (Value.int .i64) W4.drew B.bv B.vm := ⟨HH4.out, hA4, HV4.out⟩
  have a1 : ∀ w' : World, (w'.heap[t]? = some (tabO B K (S.steps + 1)) ∧ w'.heap[b]? = some (.cells #[.int .i64 ak.kind, .string ak.key, .int .i64 ak.value] 46 (0, 0)) ∧ MapIs Value.string (Value.int .i64) w' B.bv B.vm) → w'.cell? ⟨b, 1, none⟩ = some (.string ak.key) := fun w' h => cell_of_row w' _ 1 _ _ _ h.2.1
  have a5 : ∀ w' : World, (w'.heap[t]? = some (tabO B K (S.steps + 1)) ∧ w'.heap[b]? = some (.cells #[.int .i64 ak.kind, .string ak.key, .int .i64 ak.value] 46 (0, 0)) ∧ MapIs Value.string (Value.int .i64) w' B.bv B.vm) → w'.cell? ⟨t, 5, none⟩ = some (.map (some B.bv)) := fun w' h => cell_of_row w' _ 5 _ _ _ h.1
  have hlk : ∀ w' : World, (w'.heap[t]? = some (tabO B K (S.steps + 1)) ∧ w'.heap[b]? = some (.cells #[.int .i64 ak.kind, .string ak.key, .int .i64 ak.value] 46 (0, 0)) ∧ MapIs Value.string (Value.int .i64) w' B.bv B.vm) → (Instr.lookup 54 (.map (some B.bv)) (.string ak.key) false).run Tryz.prog w' = .ok (.int .i64 ((S.get ak.key).getD 0)) w' := fun w' h => by
   have hr := h.2.2.run_lookup KStr Tryz.underlying54 (show (zeroValue 2).run Tryz.prog w' = .ok (.int .i64 0) w' by kernel_rfl) ak.key false
   rw [HTO.out.is.valIs] at hr
   cases e : S.get ak.key <;> rw [e] at hr <;> exact hr
  have HFIN : Hid (∀ w5 : World, EndTell W4.drew base t K { S with steps := S.steps + 1 } B k ((S.get ak.key).getD 0) 0 (.returned (.tuple #[])) w5 → TStep W base t K B (S.stepN K k) (.returned (.tuple #[])) w5) := fun w5 h5 => by
   have hsi : S.stepN K k = ({ S with steps := S.steps + 1 } : Sh).endC k ((S.get ak.key).getD 0) 0 := by
    rw [step_is hcan]; unfold Sh.body; simp only [hx, HAK.out]; rfl
   refine TStep.ends (TabIs.shLt HK) HTO.out hk (B1 := B) rfl rfl (by rw [hsi]; exact h5.2.1) (fun b hb => .inl hb) (But.below HBC.out ⟨fun j hl hj => ?_, ?_⟩) (((HBC.out.mono ?_).trans HB4.out).trans ((Below.refl _ W4).drew.trans h5.2.2.2))
   ·have hl4 : j < W4.drew.heap.size := by show j < W4.heap.size; rw [HZ4.out]; exact hl
    rw [h5.2.2.1.keep j hl4 (fun e => hj (wr_fp (end_wr j e)))]
    exact HO4.out j (fun e => hj (wr_fp (.inl e)))
   ·rw [← HZ4.out]; exact h5.2.2.1.size
   ·have := (HTO.out.is.ap t (.inl rfl)).2; omega
  have HS5 : Hid (∀ w5 : World, EndTell W4.drew base t K { S with steps := S.steps + 1 } B k ((S.get ak.key).getD 0) 0 (.returned (.tuple #[])) w5 → w5.heap[t]? = some (tabO B K (S.steps + 1)) ∧ w5.heap[b]? = some (.cells #[.int .i64 ak.kind, .string ak.key, .int .i64 ak.value] 46 (0, 0)) ∧ MapIs Value.string (Value.int .i64) w5 B.bv B.vm) := fun w5 h5 => by
   have nt : ∀ j T, tagAt W4 j = some (T + 1) → T ≠ 35 → T ≠ 3 → ¬ (j = B.bh ∨ B.vp.ownBlock = some j ∨ B.va.ownBlock = some j) := fun j T hj n1 n2 => by
    rintro (e | e | e)
    ·exact tag_ne hj (map_tag HT4.out.hands) (by omega) e
    ·exact tag_ne hj (own_tag HT4.out.past e) (by omega) rfl
    ·exact tag_ne hj (own_tag HT4.out.ats e) (by omega) rfl
   refine ⟨(h5.2.2.1.keep t htl4 (nt t _ (by unfold tagAt; rw [HH4.out]; rfl) (by decide) (by decide))).trans HH4.out, (h5.2.2.1.keep b hbl4 (nt b _ (by unfold tagAt; rw [HA4.out]; rfl) (by decide) (by decide))).trans HA4.out, ?_⟩
   obtain ⟨es, c, he, F⟩ := HV4.out
   refine ⟨es, c, (h5.2.2.1.keep B.bv HV4.out.lt ?_).trans he, F⟩
   rintro (e | e | e)
   ·exact HTO.out.is.mp.1 e.symm
   ·exact tag_ne (map_tag HT4.out.vals) (own_tag HT4.out.past e) (by decide) rfl
   ·exact tag_ne (map_tag HT4.out.vals) (own_tag HT4.out.ats e) (by decide) rfl
  clear hG4 hA4
  refine wp_region_held_drew (S := fun w' : World => w'.heap[t]? = some (tabO B K (S.steps + 1)) ∧ w'.heap[b]? = some (.cells #[.int .i64 ak.kind, .string ak.key, .int .i64 ak.value] 46 (0, 0)) ∧ MapIs Value.string (Value.int .i64) w' B.bv B.vm) (by kernel_rfl) hHeld0 (fun hHeld => ?_)
  refine wpAnyH_take (i := 0) (oi := { dst := some 44, op := Op.move (Operand.tmp 0), type := 26, pos := "shard.go:199", after := #[], guard := none }) (v := ?s6v0) rfl (by kernel_rfl) (by kernel_rfl) (by kernel_rfl) (fun _ _ _ h => h) (Or.inl ⟨by rfl, ?s6h0⟩) (by assumption) ?s6r0
  case s6h0 => ((intro w hSw; (try dsimp only at hSw); go_simp); try with_reducible rfl)
  try simp only [Act.put, List.setIfInBounds_toArray, List.set_cons_zero, List.set_cons_succ]
  refine wpAnyH_take (i := 1) (oi := { dst := some 45, op := Op.move (Operand.tmp 1), type := 3, pos := "shard.go:199", after := #[], guard := none }) (v := ?s6v1) rfl (by kernel_rfl) (by kernel_rfl) (by kernel_rfl) (fun _ _ _ h => h) (Or.inl ⟨by rfl, ?s6h1⟩) (by assumption) ?s6r1
  case s6h1 => ((intro w hSw; (try dsimp only at hSw); go_simp); try with_reducible rfl)
  try simp only [Act.put, List.setIfInBounds_toArray, List.set_cons_zero, List.set_cons_succ]
  refine wpAnyH_take (i := 2) (oi := { dst := some 46, op := Op.move (Operand.tmp 0), type := 26, pos := "shard.go:199", after := #[], guard := none }) (v := ?s6v2) rfl (by kernel_rfl) (by kernel_rfl) (by kernel_rfl) (fun _ _ _ h => h) (Or.inl ⟨by rfl, ?s6h2⟩) (by assumption) ?s6r2
  case s6h2 => ((intro w hSw; (try dsimp only at hSw); go_simp); try with_reducible rfl)
  try simp only [Act.put, List.setIfInBounds_toArray, List.set_cons_zero, List.set_cons_succ]
  refine wpAnyH_take (i := 3) (oi := { dst := some 47, op := Op.nilCheck (Operand.tmp 46), type := 0, pos := "shard.go:199", after := #[{ on := 2, ground := Ground.data }], guard := none }) (v := ?s6v3) rfl (by kernel_rfl) (by kernel_rfl) (by kernel_rfl) (fun _ _ _ h => h) (Or.inl ⟨by rfl, ?s6h3⟩) (by assumption) ?s6r3
  case s6h3 => ((intro w hSw; (try dsimp only at hSw); go_simp); try with_reducible rfl)
  try simp only [Act.put, List.setIfInBounds_toArray, List.set_cons_zero, List.set_cons_succ]
  refine wpAnyH_take (i := 4) (oi := { dst := some 48, op := Op.fieldAddr 58 (Operand.tmp 47) 5, type := 0, pos := "shard.go:199", after := #[{ on := 3, ground := Ground.data }], guard := none }) (v := ?s6v4) rfl (by kernel_rfl) (by kernel_rfl) (by kernel_rfl) (fun _ _ _ h => h) (Or.inl ⟨by rfl, ?s6h4⟩) (by assumption) ?s6r4
  case s6h4 => ((intro w hSw; (try dsimp only at hSw); go_simp); try with_reducible rfl)
  try simp only [Act.put, List.setIfInBounds_toArray, List.set_cons_zero, List.set_cons_succ]
  refine wpAnyH_take (i := 5) (oi := { dst := some 49, op := Op.load 54 (Operand.tmp 48), type := 54, pos := "shard.go:199", after := #[{ on := 4, ground := Ground.data }], guard := none }) (v := ?s6v5) rfl (by kernel_rfl) (by kernel_rfl) (by kernel_rfl) (fun _ _ _ h => h) (Or.inl ⟨by rfl, ?s6h5⟩) (by assumption) ?s6r5
  case s6h5 => ((intro w hSw; (try dsimp only at hSw); go_simp); try with_reducible rfl)
  try simp only [Act.put, List.setIfInBounds_toArray, List.set_cons_zero, List.set_cons_succ]
  refine wpAnyH_take (i := 6) (oi := { dst := some 50, op := Op.fieldAddr 46 (Operand.tmp 4) 1, type := 0, pos := "shard.go:199", after := #[], guard := none }) (v := ?s6v6) rfl (by kernel_rfl) (by kernel_rfl) (by kernel_rfl) (fun _ _ _ h => h) (Or.inl ⟨by rfl, ?s6h6⟩) (by assumption) ?s6r6
  case s6h6 => ((intro w hSw; (try dsimp only at hSw); go_simp); try with_reducible rfl)
  try simp only [Act.put, List.setIfInBounds_toArray, List.set_cons_zero, List.set_cons_succ]
  refine wpAnyH_take (i := 7) (oi := { dst := some 51, op := Op.load 9 (Operand.tmp 50), type := 9, pos := "shard.go:199", after := #[{ on := 6, ground := Ground.data }], guard := none }) (v := ?s6v7) rfl (by kernel_rfl) (by kernel_rfl) (by kernel_rfl) (fun _ _ _ h => h) (Or.inl ⟨by rfl, ?s6h7⟩) (by assumption) ?s6r7
  case s6h7 => ((intro w hSw; (try dsimp only at hSw); go_simp); try with_reducible rfl)
  try simp only [Act.put, List.setIfInBounds_toArray, List.set_cons_zero, List.set_cons_succ]
  refine wpAnyH_take (i := 8) (oi := { dst := some 52, op := Op.lookup 54 (Operand.tmp 49) (Operand.tmp 51) false, type := 2, pos := "shard.go:199", after := #[{ on := 5, ground := Ground.data }, { on := 7, ground := Ground.data }], guard := none }) (v := ?s6v8) rfl (by kernel_rfl) (by kernel_rfl) (by kernel_rfl) (fun _ _ _ h => h) (Or.inl ⟨by rfl, ?s6h8⟩) (by assumption) ?s6r8
  case s6h8 => ((intro w hSw; (try dsimp only at hSw); go_simp); try with_reducible rfl)
  try simp only [Act.put, List.setIfInBounds_toArray, List.set_cons_zero, List.set_cons_succ]
  refine wpAnyH_ready (rs := [9]) (by kernel_rfl) (by simp) ?_
  refine AllReadyH.cons (o := { dst := some 53, op := Op.call { callee := Callee.value (Operand.func 29), args := #[Operand.tmp 44, Operand.tmp 45, Operand.tmp 52, Operand.const (Value.int IntKind.i64 0)], argTypes := #[26, 3, 2, 27] }, type := 0, pos := "shard.go:199", after := #[{ on := 0, ground := Ground.data }, { on := 1, ground := Ground.data }, { on := 8, ground := Ground.data }], guard := none }) rfl (fun K hK => ?_) AllReadyH.nil
  go_simp; go_at_call 29; (with_reducible refine HE.out.mono ?_); rintro e w5 ⟨rfl, h5⟩; have H5 := hid h5; clear h5; refine hK.out _ _ (HS5.out w5 ⟨rfl, H5.out⟩) (fun hHeld => ?_)
  clear hK K
  try simp only [Act.put, List.setIfInBounds_toArray, List.set_cons_zero, List.set_cons_succ]
  refine wpAnyH_done (by kernel_rfl) ?_ _
  go_wp2_with fail
  refine bodyPost_end (v := .tuple #[]) (by simp [results, Tryz.results7, go_sem]) rfl ?_
  exact HFIN.out w5 ⟨rfl, H5.out⟩
end Go.Proofs.YtabkmdhkfbcldaaGreat
namespace Go.Proofs.YtabkmdhkfbcldaaGreat
open Go.RowKit
variable {W W' : World} {base t : Nat} {K : Wk} {S : Sh} {B : TB}
theorem But.trans {X : Nat → Prop} {w1 : World} (h1 : But X W w1) (h2 : But X w1 W') : But X W W' :=
 ⟨fun b hl hx => (h2.keep b (Nat.lt_of_lt_of_le hl h1.size) hx).trans (h1.keep b hl hx), Nat.le_trans h1.size h2.size⟩
theorem But.of_below {X : Nat → Prop} (h : Below W.heap.size W W') : But X W W' := ⟨fun b hl _ => h.block b hl, h.size⟩
theorem endV_is (a : Ak) (f : Bool) (o : Option Int) (v : Int) (h : f = true → o = some v) : endOf2 a f o = endV a f v := by
 unfold endOf2 endV
 cases f with
 | false => simp
 | true => rw [h rfl]; simp
def lockB (B : TB) (lm : Mem) (fm : Nat → Prop) : TB := { B with lm := lm, fm := fm }
def lockS (S : Sh) (steps : Nat) (locks : List Int) : Sh := { S with steps := steps, locks := locks }
theorem unl_done (HK : WkOk K) (H : TOk W base t K S B) (k : Nat) (hk : k < K.work.length) (hp : B.pr k = true) (hcan : S.canN K k = true) (hx : (S.hand k).at_ = 4) {w6 w7 : World} {lm : Mem} {fm : Nat → Prop}
  (hb6 : But (B.fp K t) W w6) (hl6 : Below base W w6) (hf6 : ∀ b, fm b → B.fm b ∨ W.heap.size ≤ b)
  (hU : UnTell w6 base t K (lockS S (S.steps + 1) (S.locks.set (K.of (S.ask K k).key) (-1))) (lockB B lm fm) k (endV (S.ask K k) (S.hand k).found (B.hv k)) (.returned (.tuple #[])) w7) :
  TStep W base t K B (S.stepN K k) (.returned (.tuple #[])) w7 := by
 obtain ⟨-, hr, hb7, hl7⟩ := hU
 have hfp : ∀ b, (lockB B lm fm).fp K t b → B.fp K t b ∨ W.heap.size ≤ b := fun b hb => by
  rcases hb with h | h
  ·exact .inl (.inl h)
  ·exact (hf6 b h).imp .inr id
 have hwr : ∀ b, (lockB B lm fm).wr t b → B.fp K t b := fun b hb => wr_fp (B := B) hb
 have hv := endV_is (S.ask K k) (S.hand k).found (S.get (S.ask K k).key) (B.hv k) (fun hf => H.hv k hp hx hf)
 have hstep : S.stepN K k = { (match endV (S.ask K k) (S.hand k).found (B.hv k) with
  | some (n, e) => (S.setL K k (-1)).endN k n e
  | none => (S.setL K k (-1)).setH k { S.hand k with at_ := 5 } : Sh) with steps := S.steps + 1 } := by
  rw [step_is hcan, ← hv]; unfold Sh.body; simp only [hx]; rfl
 generalize endV (S.ask K k) (S.hand k).found (B.hv k) = r at *
 cases r with
 | some p =>
  obtain ⟨n, er⟩ := p
  refine TStep.ends (TabIs.shLt HK) H hk (B1 := lockB B lm fm) rfl rfl (by rw [hstep]; exact hr) hfp (hb6.trans (hb7.mono hwr)) (hl6.trans hl7)
 | none =>
  have hkl : k < S.hands.length := by rw [H.ok.hnl]; exact hk
  have hh : (S.stepN K k).hand k = ⟨5, (S.hand k).found, (S.hand k).call⟩ := by rw [hstep]; exact (setH_hand S k hkl _ k).trans (if_pos rfl)
  have hpk : (lockB B lm fm).poke k (B.hv k) B.vm B.tm = lockB B lm fm := poke_self (lockB B lm fm) k
  refine TStep.goes (TabIs.shLt HK) H hk (B' := lockB B lm fm) (fun w => .inl rfl) (fun _ _ => by rw [hh]; simp) (fun _ => by rw [hh]; simp [hn0]) (fun w _ => rfl) (fun _ h4 _ => by rw [hh] at h4; simp at h4) ?_ hfp (hb6.trans (hb7.mono hwr)) (hl6.trans hl7)
  rw [hstep, ← hpk]
  exact hr
theorem begin_fp {nb : Nat} {vp' : Value} {k b : Nat} (hnb : W.heap.size ≤ nb) (hv : ∀ g, vp'.ownBlock = some g → B.vp.ownBlock = some g ∨ W.heap.size ≤ g) (h : (B.begin k nb vp').fp K t b) : B.fp K t b ∨ W.heap.size ≤ b := by
 rcases h with h | h
 ·rcases h with e | e | e | e | e | e | e | e | ⟨w, hw, e⟩
  ·exact .inl (.inl (.inl e))
  ·exact .inl (.inl (.inr (.inl e)))
  ·exact .inl (.inl (.inr (.inr (.inl e))))
  ·exact .inl (.inl (.inr (.inr (.inr (.inl e)))))
  ·exact .inl (.inl (.inr (.inr (.inr (.inr (.inl e))))))
  ·exact .inl (.inl (.inr (.inr (.inr (.inr (.inr (.inl e)))))))
  ·rcases hv b e with e | e
   ·exact .inl (.inl (.inr (.inr (.inr (.inr (.inr (.inr (.inl e))))))))
   ·exact .inr e
  ·exact .inl (.inl (.inr (.inr (.inr (.inr (.inr (.inr (.inr (.inl e)))))))))
  ·have hw : (if w = k then true else B.pr w) = true := hw
   have e : (if w = k then nb else B.hb w) = b := e
   by_cases h : w = k
   ·rw [if_pos h] at e; exact .inr (by omega)
   ·rw [if_neg h] at e hw
    exact .inl (.inl (.inr (.inr (.inr (.inr (.inr (.inr (.inr (.inr ⟨w, hw, e⟩)))))))))
 ·exact .inl (.inr h)
theorem beg_done (HK : WkOk K) (H : TOk W base t K S B) (k : Nat) (hk : k < K.work.length) (hcan : S.canN K k = true) (hx : (S.hand k).at_ = 0) {w2 w6 w7 : World} {nb : Nat} {vp' : Value} {lm : Mem} {fm : Nat → Prop}
  (hnb : W.heap.size ≤ nb) (hvp : ∀ g, vp'.ownBlock = some g → B.vp.ownBlock = some g ∨ W.heap.size ≤ g)
  (hb6 : But (fun b => B.fp K t b ∨ W.heap.size ≤ b) W w6) (hl6 : Below base W w6) (hf6 : ∀ b, fm b → B.fm b ∨ W.heap.size ≤ b)
  (hT : TabIs w6 base t K (lockS (S.beginN K k) (S.steps + 1) (S.locks.set (K.of (S.ask K k).key) k)) (lockB (B.begin k nb vp') lm fm))
  (h7 : w7 = w6.setCell ⟨nb, 1, none⟩ (.int .i64 1)) :
  TStep W base t K B (S.stepN K k) (.returned (.tuple #[])) w7 := by
 have hkl : k < S.hands.length := by rw [H.ok.hnl]; exact hk
 have hpk : (lockB (B.begin k nb vp') lm fm).pr k = true := if_pos rfl
 have hbk : (lockB (B.begin k nb vp') lm fm).hb k = nb := if_pos rfl
 have hvk : (lockB (B.begin k nb vp') lm fm).hv k = 0 := if_pos rfl
 have hstep : S.stepN K k = (lockS (S.beginN K k) (S.steps + 1) (S.locks.set (K.of (S.ask K k).key) k)).poke k ⟨1, false, S.calls.length⟩ S.rows (S.steps + 1) := by
  rw [step_is hcan]; unfold Sh.body; simp only [hx]
  show _ = ({ lockS (S.beginN K k) (S.steps + 1) (S.locks.set (K.of (S.ask K k).key) k) with hands := ((S.hands.set k ⟨0, false, S.calls.length⟩).set k ⟨1, false, S.calls.length⟩) } : Sh)
  rw [List.set_set]; rfl
 have hh : (S.stepN K k).hand k = ⟨1, false, S.calls.length⟩ := by
  rw [hstep]
  exact (setH_hand (lockS (S.beginN K k) (S.steps + 1) (S.locks.set (K.of (S.ask K k).key) k)) k (by show k < (S.hands.set k _).length; rw [List.length_set]; exact hkl) _ k).trans (if_pos rfl)
 have hhk := (hT.hand k hpk).2
 rw [hbk, hvk] at hhk
 have ht : t ≠ nb := hbk ▸ tag_ne hT.tagT (hT.tagHand k hpk) (by decide)
 have hv0 : B.bv ≠ nb := hbk ▸ tag_ne (map_tag hT.vals) (hT.tagHand k hpk) (by decide)
 have hd0 : B.bt ≠ nb := hbk ▸ tag_ne (map_tag hT.told) (hT.tagHand k hpk) (by decide)
 have hT7 := hT.poked (W' := w7) k hk hpk ⟨1, false, S.calls.length⟩ 0 (S.steps + 1) S.rows B.vm B.tm
  ⟨fun b _ hx => by rw [h7]; exact heap_setCell_other _ _ _ _ (fun e => hx (.inr (.inl (e.trans hbk.symm)))), by rw [h7]; simp⟩
  (by rw [h7]; exact (heap_setCell_other _ _ _ _ ht).trans hT.head)
  (by
   rw [h7, hbk]
   refine (heap_setCell_same _ _ 1 _ _ _ hhk).trans ?_
   have hk2 : (lockS (S.beginN K k) (S.steps + 1) (S.locks.set (K.of (S.ask K k).key) k)).hand k = ⟨0, false, S.calls.length⟩ := (setH_hand S k hkl _ k).trans (if_pos rfl)
   rw [hk2]; rfl)
  (by
   obtain ⟨es, c, he, F⟩ := hT.vals
   exact ⟨es, c, by rw [h7]; exact (heap_setCell_other _ _ _ _ hv0).trans he, F⟩) hT.valIs
  (by
   obtain ⟨es, c, he, F⟩ := hT.told
   exact ⟨es, c, by rw [h7]; exact (heap_setCell_other _ _ _ _ hd0).trans he, F⟩) hT.toldIs
 have hbs : base ≤ W.heap.size := by have := (H.is.ap t (.inl rfl)).2; omega
 refine TStep.goes (TabIs.shLt HK) H hk (B' := (lockB (B.begin k nb vp') lm fm).poke k 0 B.vm B.tm) (fun w => ?_) (fun _ _ => by rw [hh]; simp) (fun _ => by rw [hh]; simp [hn0]) (fun w hw => ?_) (fun _ h4 _ => by rw [hh] at h4; simp at h4) (by rw [hstep]; exact hT7) (fun b hb => ?_) ⟨fun b hl hx => ?_, ?_⟩ ?_
 ·show (if w = k then true else B.pr w) = B.pr w ∨ w = k
  by_cases e : w = k
  ·exact .inr e
  ·rw [if_neg e]; exact .inl rfl
 ·show (if w = k then (0 : Int) else if w = k then 0 else B.hv w) = B.hv w
  rw [if_neg hw, if_neg hw]
 ·rcases hb with h | h
  ·exact begin_fp hnb hvp (.inl h)
  ·exact (hf6 b h).imp .inr id
 ·rw [h7, heap_setCell_other _ _ _ _ (by show b ≠ nb; omega)]
  exact hb6.keep b hl (fun e => e.elim hx (fun e => by omega))
 ·rw [h7]; simp; exact hb6.size
 ·rw [h7]; exact hl6.setCell (by show base ≤ nb; omega) _
end Go.Proofs.YtabkmdhkfbcldaaGreat
namespace Go.Proofs.YtabkmdhkfbcldaaGreat
open Go.RowKit
variable {W W' : World} {base t : Nat} {K : Wk} {S : Sh} {B : TB}
set_option maxRecDepth 20000 in
set_option maxHeartbeats 2000000 in
theorem step4_any (H : TOk W base t K S B) (HK : WkOk K) (k : Nat) (hk : k < K.work.length) (hcan : S.canN K k = true) (hx : (S.hand k).at_ = 4) (hst : S.steps ≤ 1000000) (hsz : (K.own k).length ≤ 1000000) :
  Calls Tryz.prog 7 #[.pointer (some ⟨t, 0, none⟩), .int .i64 (k : Nat)] W (TStep W base t K B (S.stepN K k)) := by
 have HTO := hid H
 have hn := H.ok.nx hk (can_facts hcan).1
 have hp : B.pr k = true := by
  cases e : B.pr k with
  | true => rfl
  | false => have := (H.is.free k e).2; omega
 have HD := hid (done_any H.is (k : Int))
 have hdf : S.doneI K (k : Int) = false := by
  unfold Sh.doneI
  rw [Int.toNat_natCast, (can_facts hcan).1]
  simp; omega
 have HW := hid (fun (w1 : World) (hb : Below W.heap.size W w1) => twaits_any (H.is.below hb) HK (k : Int))
 have hwf : S.waitsI K (k : Int) = false := by unfold Sh.waitsI; rw [Int.toNat_natCast, (can_facts hcan).2, hdf]; rfl
 rw [hwf] at HW
 rw [hdf] at HD
 have HA := hid (fun (w1 : World) (hb : Below W.heap.size W w1) => ask_any (H.is.below hb) k hk hn)
 have HM := hid (fun (w1 : World) (hb : Below W.heap.size W w1) => H.is.hands.below hb H.is.hands.lt)
 have HL := hid (H.is.hand k hp).1
 have HZ := hid (fun w1 : World => (show (zeroValue 68).run Tryz.prog w1 = .ok (.pointer none) w1 by kernel_rfl))
 have hlt := (Array.getElem?_eq_some_iff.1 H.is.head).1
 obtain ⟨c0, c1, c2, c3, c4, c5, c6, c7, c8⟩ := tab_cells H.is.head
 have g4 : ∀ w', Below W.heap.size W w' → w'.cell? ⟨t, 4, none⟩ = some (.map (some B.bh)) := fun w' hb => (hb.cell (p := ⟨t, 4, none⟩) hlt).trans c4
 have HG4 := hid g4
 generalize hak : S.ask K k = ak at HA
 have HAK := hid hak
 clear hak hdf hwf c0 c1 c2 c3 c4 c5 c6 c7 c8 H g4
 go_enter Tryz.func7, Tryz.ntmps7
 go_upto_region 3 with (first
  | (go_at_call 17; (with_reducible refine HD.out.mono ?_); rintro e w1 ⟨rfl, q1, rfl⟩)
  | (go_at_call 23; (with_reducible refine (HW.out _ (below_drewN (Below.refl _ _) q1)).mono ?_); rintro e w2 ⟨rfl, hb2⟩; have HB2 := hid (below_more hb2 (below_drewN (Below.refl _ _) q1) (Nat.le_refl _)); clear hb2; have G4 := HG4.out w2 HB2.out)
  | ((with_reducible show wpList _ _ _ (⟨some 19, _, _, _, _, _⟩ :: _) _ _); refine wpList_maplook KInt Tryz.underlying53 rfl (.tmp 17) (.tmp 18) false rfl (.pointer none) (HZ.out _) B.bh B.hm rfl (HM.out _ HB2.out) (k : Int) rfl ?_; rw [HL.out]))
 have HW2 : Hid (Below W.heap.size W w2) := HB2.out
 have g4 := HG4.out
 have hlk : ∀ w', Below W.heap.size W w' → (Instr.lookup 53 (.map (some B.bh)) (.int .i64 (k : Nat)) false).run Tryz.prog w' = .ok (.pointer (some ⟨B.hb k, 0, none⟩)) w' := fun w' hb => by
  have hr := (HM.out w' hb).run_lookup KInt Tryz.underlying53 (HZ.out w') (k : Int) false
  rw [HL.out] at hr
  exact hr
 go_cut [4, 5] (fun v c wx => AkV W ak v wx ∧ c = .pointer (some ⟨B.hb k, 0, none⟩))
 case first =>
  refine wp_region_held_drew (S := fun w' => Below W.heap.size W w') (by kernel_rfl) HW2.out.drew (fun hHeld => ?_)
  refine wpAnyH_take (i := 0) (oi := { dst := some 24, op := Op.move (Operand.tmp 0), type := 26, pos := "shard.go:177", after := #[], guard := none }) (v := ?sav0) rfl (by kernel_rfl) (by kernel_rfl) (by kernel_rfl) (fun _ _ _ h => h) (Or.inl ⟨by rfl, ?sah0⟩) (by assumption) ?sar0
  case sah0 => ((intro w hSw; (try dsimp only at hSw); go_simp); try with_reducible rfl)
  try simp only [Act.put, List.setIfInBounds_toArray, List.set_cons_zero, List.set_cons_succ]
  refine wpAnyH_take (i := 1) (oi := { dst := some 25, op := Op.move (Operand.tmp 1), type := 3, pos := "shard.go:177", after := #[], guard := none }) (v := ?sav1) rfl (by kernel_rfl) (by kernel_rfl) (by kernel_rfl) (fun _ _ _ h => h) (Or.inl ⟨by rfl, ?sah1⟩) (by assumption) ?sar1
  case sah1 => ((intro w hSw; (try dsimp only at hSw); go_simp); try with_reducible rfl)
  try simp only [Act.put, List.setIfInBounds_toArray, List.set_cons_zero, List.set_cons_succ]
  refine wpAnyH_take (i := 3) (oi := { dst := some 27, op := Op.move (Operand.tmp 0), type := 26, pos := "shard.go:177", after := #[{ on := 10, ground := Ground.gcOnly Departure.lateStores }], guard := none }) (v := ?sav3) rfl (by kernel_rfl) (by kernel_rfl) (by kernel_rfl) (fun _ _ _ h => h) (Or.inl ⟨by rfl, ?sah3⟩) (by assumption) ?sar3
  case sah3 => ((intro w hSw; (try dsimp only at hSw); go_simp); try with_reducible rfl)
  try simp only [Act.put, List.setIfInBounds_toArray, List.set_cons_zero, List.set_cons_succ]
  refine wpAnyH_take (i := 4) (oi := { dst := some 28, op := Op.nilCheck (Operand.tmp 27), type := 0, pos := "shard.go:177", after := #[{ on := 3, ground := Ground.data }, { on := 10, ground := Ground.gcOnly Departure.lateStores }], guard := none }) (v := ?sav4) rfl (by kernel_rfl) (by kernel_rfl) (by kernel_rfl) (fun _ _ _ h => h) (Or.inl ⟨by rfl, ?sah4⟩) (by assumption) ?sar4
  case sah4 => ((intro w hSw; (try dsimp only at hSw); go_simp); try with_reducible rfl)
  try simp only [Act.put, List.setIfInBounds_toArray, List.set_cons_zero, List.set_cons_succ]
  refine wpAnyH_take (i := 5) (oi := { dst := some 29, op := Op.fieldAddr 58 (Operand.tmp 28) 4, type := 0, pos := "shard.go:177", after := #[{ on := 4, ground := Ground.data }, { on := 10, ground := Ground.gcOnly Departure.lateStores }], guard := none }) (v := ?sav5) rfl (by kernel_rfl) (by kernel_rfl) (by kernel_rfl) (fun _ _ _ h => h) (Or.inl ⟨by rfl, ?sah5⟩) (by assumption) ?sar5
  case sah5 => ((intro w hSw; (try dsimp only at hSw); go_simp); try with_reducible rfl)
  try simp only [Act.put, List.setIfInBounds_toArray, List.set_cons_zero, List.set_cons_succ]
  refine wpAnyH_take (i := 6) (oi := { dst := some 30, op := Op.load 53 (Operand.tmp 29), type := 53, pos := "shard.go:177", after := #[{ on := 5, ground := Ground.data }, { on := 10, ground := Ground.gcOnly Departure.lateStores }], guard := none }) (v := ?sav6) rfl (by kernel_rfl) (by kernel_rfl) (by kernel_rfl) (fun _ _ _ h => h) (Or.inl ⟨by rfl, ?sah6⟩) (by assumption) ?sar6
  case sah6 => ((intro w hSw; (try dsimp only at hSw); go_simp); try with_reducible rfl)
  try simp only [Act.put, List.setIfInBounds_toArray, List.set_cons_zero, List.set_cons_succ]
  refine wpAnyH_take (i := 7) (oi := { dst := some 31, op := Op.move (Operand.tmp 1), type := 3, pos := "shard.go:177", after := #[{ on := 10, ground := Ground.gcOnly Departure.lateStores }], guard := none }) (v := ?sav7) rfl (by kernel_rfl) (by kernel_rfl) (by kernel_rfl) (fun _ _ _ h => h) (Or.inl ⟨by rfl, ?sah7⟩) (by assumption) ?sar7
  case sah7 => ((intro w hSw; (try dsimp only at hSw); go_simp); try with_reducible rfl)
  try simp only [Act.put, List.setIfInBounds_toArray, List.set_cons_zero, List.set_cons_succ]
  refine wpAnyH_take (i := 8) (oi := { dst := some 32, op := Op.lookup 53 (Operand.tmp 30) (Operand.tmp 31) false, type := 68, pos := "shard.go:177", after := #[{ on := 6, ground := Ground.data }, { on := 7, ground := Ground.data }, { on := 10, ground := Ground.gcOnly Departure.lateStores }], guard := none }) (v := ?sav8) rfl (by kernel_rfl) (by kernel_rfl) (by kernel_rfl) (fun _ _ _ h => h) (Or.inl ⟨by rfl, ?sah8⟩) (by assumption) ?sar8
  case sah8 => ((intro w hSw; (try dsimp only at hSw); go_simp); try with_reducible rfl)
  try simp only [Act.put, List.setIfInBounds_toArray, List.set_cons_zero, List.set_cons_succ]
  refine wpAnyH_ready (rs := [2, 9]) (by kernel_rfl) (by simp) ?_
  refine AllReadyH.cons (o := { dst := some 26, op := Op.call { callee := Callee.value (Operand.func 25), args := #[Operand.tmp 24, Operand.tmp 25], argTypes := #[26, 3] }, type := 46, pos := "shard.go:177", after := #[{ on := 0, ground := Ground.data }, { on := 1, ground := Ground.data }], guard := none }) rfl (fun K hK => ?_) ?_
  ·go_simp
   go_at_call 25; (with_reducible refine (HA.out _ (by first | exact HW2.out.drew | exact (HW2.out.alloc HW2.out.size _).drew)).mono ?_); rintro e w3 ⟨rfl, hb3⟩; have hq3 : Below W.heap.size W w3 := below_more hb3 (by first | exact HW2.out.drew | exact (HW2.out.alloc HW2.out.size _).drew) (Nat.le_refl _); try (have hblk := (hb3.block w2.heap.size (by simp)).trans (heap_alloc_new w2 _); have f0 := frozen_of_row _ _ 0 _ _ hblk; have f1 := frozen_of_row _ _ 1 _ _ hblk; have f2 := frozen_of_row _ _ 2 _ _ hblk; have z0 := cell_of_row _ _ 0 _ _ _ hblk; have z1 := cell_of_row _ _ 1 _ _ _ hblk; have z2 := cell_of_row _ _ 2 _ _ _ hblk; have HBLK := hid hblk; clear hblk); clear hb3
   refine hK.out _ _ (by assumption) (fun hHeld => ?_)
   clear hK K
   try simp only [Act.put, List.setIfInBounds_toArray, List.set_cons_zero, List.set_cons_succ]
   refine wpAnyH_ready (rs := [9]) (by kernel_rfl) (by simp) ?_
   refine AllReadyH.cons (o := { dst := some 4, op := Op.alloc 46, type := 0, pos := "shard.go:177", after := #[], guard := none }) rfl (fun K hK => ?_) AllReadyH.nil
   go_simp; refine hK.out _ _ (by first | exact (HW2.out.alloc HW2.out.size _).drew | exact hq3.alloc hq3.size _) (fun hHeld => ?_)
   clear hK K
   try simp only [Act.put, List.setIfInBounds_toArray, List.set_cons_zero, List.set_cons_succ]
   refine wpAnyH_ready (rs := [10]) (by kernel_rfl) (by simp) ?_
   refine AllReadyH.cons (o := { dst := none, op := Op.store 46 (Operand.tmp 4) (Operand.tmp 26), type := 0, pos := "shard.go:177", after := #[{ on := 9, ground := Ground.data }, { on := 2, ground := Ground.data }, { on := 2, ground := Ground.chain }, { on := 0, ground := Ground.phase }, { on := 1, ground := Ground.phase }, { on := 2, ground := Ground.phase }, { on := 3, ground := Ground.textOnly Departure.lateStores }, { on := 4, ground := Ground.textOnly Departure.lateStores }, { on := 5, ground := Ground.textOnly Departure.lateStores }, { on := 6, ground := Ground.textOnly Departure.lateStores }, { on := 7, ground := Ground.textOnly Departure.lateStores }, { on := 8, ground := Ground.textOnly Departure.lateStores }, { on := 9, ground := Ground.phase }], guard := none }) rfl (fun K hK => ?_) AllReadyH.nil
   go_simp; refine hK.out _ _ (by first | exact hq3.alloc hq3.size _ | exact ((hq3.setCell HW2.out.size _).setCell HW2.out.size _).setCell HW2.out.size _) (fun hHeld => ?_)
   clear hK K
   try simp only [Act.put, List.setIfInBounds_toArray, List.set_cons_zero, List.set_cons_succ]
   refine wpAnyH_take (i := 11) (oi := { dst := some 5, op := Op.assign (Operand.tmp 32), type := 68, pos := "shard.go:177", after := #[{ on := 8, ground := Ground.data }, { on := 10, ground := Ground.chain }, { on := 0, ground := Ground.phase }, { on := 1, ground := Ground.phase }, { on := 2, ground := Ground.phase }, { on := 3, ground := Ground.phase }, { on := 4, ground := Ground.phase }, { on := 5, ground := Ground.phase }, { on := 6, ground := Ground.phase }, { on := 7, ground := Ground.phase }, { on := 8, ground := Ground.phase }, { on := 9, ground := Ground.phase }, { on := 10, ground := Ground.phase }], guard := none }) (v := ?saav11) rfl (by kernel_rfl) (by kernel_rfl) (by kernel_rfl) (fun _ _ _ h => h) (Or.inl ⟨by rfl, ?saah11⟩) (by assumption) ?saar11
   case saah11 => ((intro w hSw; (try dsimp only at hSw); go_simp); try with_reducible rfl)
   try simp only [Act.put, List.setIfInBounds_toArray, List.set_cons_zero, List.set_cons_succ]
   refine wpAnyH_done (by kernel_rfl) ?_ _
   go_wp2_with fail
   go_meet
   first | exact ⟨⟨_, rfl, hq3.size, heap_alloc_new w3 _, hq3.alloc hq3.size _⟩, rfl⟩ | exact ⟨⟨_, rfl, HW2.out.size, heap_setCell_same _ _ 2 _ _ _ (heap_setCell_same _ _ 1 _ _ _ (heap_setCell_same _ _ 0 _ _ _ HBLK.out)), ((hq3.setCell HW2.out.size _).setCell HW2.out.size _).setCell HW2.out.size _⟩, rfl⟩
  refine AllReadyH.cons (o := { dst := some 4, op := Op.alloc 46, type := 0, pos := "shard.go:177", after := #[], guard := none }) rfl (fun K hK => ?_) AllReadyH.nil
  go_simp; refine hK.out _ _ (by first | exact (HW2.out.alloc HW2.out.size _).drew | exact hq3.alloc hq3.size _) (fun hHeld => ?_)
  clear hK K
  try simp only [Act.put, List.setIfInBounds_toArray, List.set_cons_zero, List.set_cons_succ]
  refine wpAnyH_ready (rs := [2]) (by kernel_rfl) (by simp) ?_
  refine AllReadyH.cons (o := { dst := some 26, op := Op.call { callee := Callee.value (Operand.func 25), args := #[Operand.tmp 24, Operand.tmp 25], argTypes := #[26, 3] }, type := 46, pos := "shard.go:177", after := #[{ on := 0, ground := Ground.data }, { on := 1, ground := Ground.data }], guard := none }) rfl (fun K hK => ?_) AllReadyH.nil
  go_simp
  go_at_call 25; (with_reducible refine (HA.out _ (by first | exact HW2.out.drew | exact (HW2.out.alloc HW2.out.size _).drew)).mono ?_); rintro e w3 ⟨rfl, hb3⟩; have hq3 : Below W.heap.size W w3 := below_more hb3 (by first | exact HW2.out.drew | exact (HW2.out.alloc HW2.out.size _).drew) (Nat.le_refl _); try (have hblk := (hb3.block w2.heap.size (by simp)).trans (heap_alloc_new w2 _); have f0 := frozen_of_row _ _ 0 _ _ hblk; have f1 := frozen_of_row _ _ 1 _ _ hblk; have f2 := frozen_of_row _ _ 2 _ _ hblk; have z0 := cell_of_row _ _ 0 _ _ _ hblk; have z1 := cell_of_row _ _ 1 _ _ _ hblk; have z2 := cell_of_row _ _ 2 _ _ _ hblk; have HBLK := hid hblk; clear hblk); clear hb3
  refine hK.out _ _ (by assumption) (fun hHeld => ?_)
  clear hK K
  try simp only [Act.put, List.setIfInBounds_toArray, List.set_cons_zero, List.set_cons_succ]
  refine wpAnyH_ready (rs := [10]) (by kernel_rfl) (by simp) ?_
  refine AllReadyH.cons (o := { dst := none, op := Op.store 46 (Operand.tmp 4) (Operand.tmp 26), type := 0, pos := "shard.go:177", after := #[{ on := 9, ground := Ground.data }, { on := 2, ground := Ground.data }, { on := 2, ground := Ground.chain }, { on := 0, ground := Ground.phase }, { on := 1, ground := Ground.phase }, { on := 2, ground := Ground.phase }, { on := 3, ground := Ground.textOnly Departure.lateStores }, { on := 4, ground := Ground.textOnly Departure.lateStores }, { on := 5, ground := Ground.textOnly Departure.lateStores }, { on := 6, ground := Ground.textOnly Departure.lateStores }, { on := 7, ground := Ground.textOnly Departure.lateStores }, { on := 8, ground := Ground.textOnly Departure.lateStores }, { on := 9, ground := Ground.phase }], guard := none }) rfl (fun K hK => ?_) AllReadyH.nil
  go_simp; refine hK.out _ _ (by first | exact hq3.alloc hq3.size _ | exact ((hq3.setCell HW2.out.size _).setCell HW2.out.size _).setCell HW2.out.size _) (fun hHeld => ?_)
  clear hK K
  try simp only [Act.put, List.setIfInBounds_toArray, List.set_cons_zero, List.set_cons_succ]
  refine wpAnyH_take (i := 11) (oi := { dst := some 5, op := Op.assign (Operand.tmp 32), type := 68, pos := "shard.go:177", after := #[{ on := 8, ground := Ground.data }, { on := 10, ground := Ground.chain }, { on := 0, ground := Ground.phase }, { on := 1, ground := Ground.phase }, { on := 2, ground := Ground.phase }, { on := 3, ground := Ground.phase }, { on := 4, ground := Ground.phase }, { on := 5, ground := Ground.phase }, { on := 6, ground := Ground.phase }, { on := 7, ground := Ground.phase }, { on := 8, ground := Ground.phase }, { on := 9, ground := Ground.phase }, { on := 10, ground := Ground.phase }], guard := none }) (v := ?sabv11) rfl (by kernel_rfl) (by kernel_rfl) (by kernel_rfl) (fun _ _ _ h => h) (Or.inl ⟨by rfl, ?sabh11⟩) (by assumption) ?sabr11
  case sabh11 => ((intro w hSw; (try dsimp only at hSw); go_simp); try with_reducible rfl)
  try simp only [Act.put, List.setIfInBounds_toArray, List.set_cons_zero, List.set_cons_succ]
  refine wpAnyH_done (by kernel_rfl) ?_ _
  go_wp2_with fail
  go_meet
  first | exact ⟨⟨_, rfl, hq3.size, heap_alloc_new w3 _, hq3.alloc hq3.size _⟩, rfl⟩ | exact ⟨⟨_, rfl, HW2.out.size, heap_setCell_same _ _ 2 _ _ _ (heap_setCell_same _ _ 1 _ _ _ (heap_setCell_same _ _ 0 _ _ _ HBLK.out)), ((hq3.setCell HW2.out.size _).setCell HW2.out.size _).setCell HW2.out.size _⟩, rfl⟩
 case rest =>
  obtain ⟨⟨b, rfl, hbz, hbb, hbc⟩, rfl⟩ := hcut
  clear hlk g4
  have HBC := hid hbc
  have HBB := hid hbb
  have hT := HTO.out.is.below hbc
  have htb : t ≠ b := by have := hlt; omega
  have hh1 := hT.head
  obtain ⟨c0, c1, c2, c3, c4, c5, c6, c7, c8⟩ := tab_cells hh1
  have cf8 := frozen_of_row _ _ 8 _ _ hh1
  have HT := hid hT
  clear c0 c1 c2 c3 c4 c5 c6 c7 hh1 hbc hbb hT
  go_upto_region 5 with fail
  obtain ⟨W4, hW4⟩ : ∃ W4, W4 = wc.setCell ⟨t, 8, none⟩ (.int .i64 ((S.steps : Nat) + 1)) := ⟨_, rfl⟩
  rw [← hW4]
  have HO4 : Hid (∀ j, j ≠ t → W4.heap[j]? = wc.heap[j]?) := fun j hj => by rw [hW4]; exact heap_setCell_other _ _ _ _ hj
  have HH4 : Hid (W4.heap[t]? = some (tabO B K (S.steps + 1))) := by
   rw [hW4]
   have e := heap_setCell_same wc t 8 _ _ (.int .i64 ((S.steps : Nat) + 1)) HT.out.head
   have e2 : ((S.steps + 1 : Nat) : Int) = (S.steps : Int) + 1 := by omega
   unfold tabO
   rw [e2]
   exact e
  have HZ4 : Hid (W4.heap.size = wc.heap.size) := by rw [hW4]; simp [Hid]
  have HB4 : Hid (Below base wc W4) := by rw [hW4]; exact (Below.refl _ _).setCell (HTO.out.is.ap t (.inl rfl)).2.1 _
  clear hW4 c8 cf8
  have hgt : B.hb k ≠ t := tag_ne (HT.out.tagHand k hp) HT.out.tagT (by decide)
  have hG4 : W4.heap[B.hb k]? = some (handO (S.hand k) (B.hv k)) := (HO4.out _ hgt).trans (HT.out.hand k hp).2
  have hA4 : W4.heap[b]? = some (.cells #[.int .i64 ak.kind, .string ak.key, .int .i64 ak.value] 46 (0, 0)) := (HO4.out _ (Ne.symm htb)).trans HBB.out
  have hgb : b ≠ B.hb k := by have := (HTO.out.is.ap _ (.inr (.inr (.inr (.inr (.inr (.inr (.inr (.inr ⟨k, hp, rfl⟩))))))))).2.2; omega
  have q1 : W4.cell? ⟨B.hb k, 1, none⟩ = some (.int .i64 ((S.hand k).at_ : Nat)) := cell_of_row _ _ 1 _ _ _ hG4
  rw [hx] at q1
  have HG4' := hid hG4
  have HA4 := hid hA4
  have hbeg : base ≤ B.hb k := (HTO.out.is.ap _ (.inr (.inr (.inr (.inr (.inr (.inr (.inr (.inr ⟨k, hp, rfl⟩))))))))).2.1
  have HV4 : Hid (MapIs Value.string (Value.int .i64) W4 B.bv B.vm) := by
   obtain ⟨es, c, he, F⟩ := HT.out.vals
   exact ⟨es, c, (HO4.out _ (tag_ne (map_tag HT.out.vals) HT.out.tagT (by decide))).trans he, F⟩
  have HD4 : Hid (MapIs Value.string Value.bool W4 B.bt B.tm) := by
   obtain ⟨es, c, he, F⟩ := HT.out.told
   exact ⟨es, c, (HO4.out _ (tag_ne (map_tag HT.out.told) HT.out.tagT (by decide))).trans he, F⟩
  have hnl : S.next.getD k 0 < (K.own k).length := hn
  have HT4 : Hid (TabIs W4 base t K { S with steps := S.steps + 1 } B) := by
   have e := HT.out.poked k hk hp (S.hand k) (B.hv k) (S.steps + 1) S.rows B.vm B.tm (W' := W4) ⟨fun j _ hj => HO4.out j (fun e => hj (.inl e)), by rw [HZ4.out]; exact Nat.le_refl _⟩ HH4.out hG4 HV4.out HTO.out.is.valIs HD4.out HTO.out.is.toldIs
   rw [poke_self, pokeS_self S k (by rw [HTO.out.ok.hnl]; exact hk)] at e
   exact e
  have hcall := ((HTO.out.ok.each k hk).inh (by omega)).2.1
  go_upto_region 22 with fail
  have htl4 : t < W4.heap.size := (Array.getElem?_eq_some_iff.1 HH4.out).1
  have HLK := hid (tlock_any (HT4.out.below (Below.refl _ W4).drew) HK k hk hnl 4)
  have HDO := hid (fun (w1 : World) (hb : Below W4.heap.size W4 w1) => do_any (HT4.out.mem.below hb) (k : Int) ⟨4, (K.of (S.ask K k).key : Nat), 0, 0⟩)
  have a0 : ∀ w' : World, w'.heap[t]? = some (tabO B K (S.steps + 1)) → w'.cell? ⟨t, 0, none⟩ = some (.pointer (some ⟨B.m, 0, none⟩)) := fun w' h => cell_of_row w' _ 0 _ _ _ h
  have hS4 : W4.drew.heap[t]? = some (tabO B K (S.steps + 1)) := HH4.out
  have HLK' : Hid (Calls Tryz.prog 27 #[.pointer (some ⟨t, 0, none⟩), .int .i64 (k : Nat), .int .i64 4] W4.drew fun e w' => e = .returned (Ac.val ⟨4, (K.of (S.ask K k).key : Nat), 0, 0⟩) ∧ Below W4.heap.size W4 w') := HLK.out.mono fun _ _ h => ⟨h.1, (Below.refl _ W4).drew.trans h.2⟩
  clear HLK
  generalize hac : (⟨4, (K.of (S.ask K k).key : Nat), 0, 0⟩ : Ac) = ac at *
  have HAC := hid hac
  clear hac
  generalize hav : ac.val = av at HLK' HDO
  clear hav
  have hTB : t < W4.heap.size ∧ ¬ B.fm t := ⟨htl4, (HTO.out.is.ap t (.inl rfl)).1⟩
  have HTBB := hid hTB
  clear hG4 hA4 htl4 hTB
  refine wp_region_held_drew (S := fun w' : World => w'.heap[t]? = some (tabO B K (S.steps + 1))) (by kernel_rfl) hS4 (fun hHeld => ?_)
  refine wpAnyH_take (i := 0) (oi := { dst := some 128, op := Op.move (Operand.tmp 0), type := 26, pos := "shard.go:196", after := #[], guard := none }) (v := ?slv0) rfl (by kernel_rfl) (by kernel_rfl) (by kernel_rfl) (fun _ _ _ h => h) (Or.inl ⟨by rfl, ?slh0⟩) (by assumption) ?slr0
  case slh0 => ((intro w hSw; (try dsimp only at hSw); go_simp); try with_reducible rfl)
  try simp only [Act.put, List.setIfInBounds_toArray, List.set_cons_zero, List.set_cons_succ]
  refine wpAnyH_take (i := 1) (oi := { dst := some 129, op := Op.nilCheck (Operand.tmp 128), type := 0, pos := "shard.go:196", after := #[{ on := 0, ground := Ground.data }], guard := none }) (v := ?slv1) rfl (by kernel_rfl) (by kernel_rfl) (by kernel_rfl) (fun _ _ _ h => h) (Or.inl ⟨by rfl, ?slh1⟩) (by assumption) ?slr1
  case slh1 => ((intro w hSw; (try dsimp only at hSw); go_simp); try with_reducible rfl)
  try simp only [Act.put, List.setIfInBounds_toArray, List.set_cons_zero, List.set_cons_succ]
  refine wpAnyH_take (i := 2) (oi := { dst := some 130, op := Op.fieldAddr 58 (Operand.tmp 129) 0, type := 0, pos := "shard.go:196", after := #[{ on := 1, ground := Ground.data }], guard := none }) (v := ?slv2) rfl (by kernel_rfl) (by kernel_rfl) (by kernel_rfl) (fun _ _ _ h => h) (Or.inl ⟨by rfl, ?slh2⟩) (by assumption) ?slr2
  case slh2 => ((intro w hSw; (try dsimp only at hSw); go_simp); try with_reducible rfl)
  try simp only [Act.put, List.setIfInBounds_toArray, List.set_cons_zero, List.set_cons_succ]
  refine wpAnyH_take (i := 3) (oi := { dst := some 131, op := Op.load 56 (Operand.tmp 130), type := 56, pos := "shard.go:196", after := #[{ on := 2, ground := Ground.data }], guard := none }) (v := ?slv3) rfl (by kernel_rfl) (by kernel_rfl) (by kernel_rfl) (fun _ _ _ h => h) (Or.inl ⟨by rfl, ?slh3⟩) (by assumption) ?slr3
  case slh3 => ((intro w hSw; (try dsimp only at hSw); go_simp); try with_reducible rfl)
  try simp only [Act.put, List.setIfInBounds_toArray, List.set_cons_zero, List.set_cons_succ]
  refine wpAnyH_take (i := 4) (oi := { dst := some 132, op := Op.move (Operand.tmp 1), type := 3, pos := "shard.go:196", after := #[], guard := none }) (v := ?slv4) rfl (by kernel_rfl) (by kernel_rfl) (by kernel_rfl) (fun _ _ _ h => h) (Or.inl ⟨by rfl, ?slh4⟩) (by assumption) ?slr4
  case slh4 => ((intro w hSw; (try dsimp only at hSw); go_simp); try with_reducible rfl)
  try simp only [Act.put, List.setIfInBounds_toArray, List.set_cons_zero, List.set_cons_succ]
  refine wpAnyH_take (i := 5) (oi := { dst := some 133, op := Op.move (Operand.tmp 0), type := 26, pos := "shard.go:196", after := #[], guard := none }) (v := ?slv5) rfl (by kernel_rfl) (by kernel_rfl) (by kernel_rfl) (fun _ _ _ h => h) (Or.inl ⟨by rfl, ?slh5⟩) (by assumption) ?slr5
  case slh5 => ((intro w hSw; (try dsimp only at hSw); go_simp); try with_reducible rfl)
  try simp only [Act.put, List.setIfInBounds_toArray, List.set_cons_zero, List.set_cons_succ]
  refine wpAnyH_take (i := 6) (oi := { dst := some 134, op := Op.move (Operand.tmp 1), type := 3, pos := "shard.go:196", after := #[], guard := none }) (v := ?slv6) rfl (by kernel_rfl) (by kernel_rfl) (by kernel_rfl) (fun _ _ _ h => h) (Or.inl ⟨by rfl, ?slh6⟩) (by assumption) ?slr6
  case slh6 => ((intro w hSw; (try dsimp only at hSw); go_simp); try with_reducible rfl)
  try simp only [Act.put, List.setIfInBounds_toArray, List.set_cons_zero, List.set_cons_succ]
  refine wpAnyH_ready (rs := [7]) (by kernel_rfl) (by simp) ?_
  refine AllReadyH.cons (o := { dst := some 135, op := Op.call { callee := Callee.value (Operand.func 27), args := #[Operand.tmp 133, Operand.tmp 134, Operand.const (Value.int IntKind.i64 4)], argTypes := #[26, 3, 3] }, type := 75, pos := "shard.go:196", after := #[{ on := 5, ground := Ground.data }, { on := 6, ground := Ground.data }], guard := none }) rfl (fun K hK => ?_) AllReadyH.nil
  go_simp; go_at_call 27; (with_reducible refine HLK'.out.mono ?_); rintro e w5 ⟨rfl, hb5⟩; have HB5 := hid hb5; clear hb5; refine hK.out _ _ ((HB5.out.block t HTBB.out.1).trans HH4.out) (fun hHeld => ?_)
  clear hK K
  try simp only [Act.put, List.setIfInBounds_toArray, List.set_cons_zero, List.set_cons_succ]
  refine wpAnyH_ready (rs := [8]) (by kernel_rfl) (by simp) ?_
  refine AllReadyH.cons (o := { dst := some 136, op := Op.call { callee := Callee.value (Operand.func 26), args := #[Operand.tmp 131, Operand.tmp 132, Operand.tmp 135], argTypes := #[56, 3, 75] }, type := 72, pos := "shard.go:196", after := #[{ on := 3, ground := Ground.data }, { on := 4, ground := Ground.data }, { on := 7, ground := Ground.data }, { on := 7, ground := Ground.chain }], guard := none }) rfl (fun K hK => ?_) AllReadyH.nil
  go_simp; go_at_call 26; (with_reducible refine (HDO.out w5 HB5.out).mono ?_); rintro e w6 ⟨rfl, fm6, hm6, hf6, ht6, hb6⟩; have HM6 := hid hm6; have HF6 := hid hf6; have HT6 := hid ht6; have HB6 := hid hb6; clear hm6 hf6 ht6 hb6; refine hK.out _ _ ((HT6.out.block t (Nat.lt_of_lt_of_le HTBB.out.1 HB5.out.size) HTBB.out.2).trans ((HB5.out.block t HTBB.out.1).trans HH4.out)) (fun hHeld => ?_)
  clear hK K
  try simp only [Act.put, List.setIfInBounds_toArray, List.set_cons_zero, List.set_cons_succ]
  refine wpAnyH_done (by kernel_rfl) ?_ _
  skip
  have HT6' : Hid (TabIs w6 base t K (lockS S (S.steps + 1) (S.locks.set (K.of (S.ask K k).key) (-1))) (lockB B (B.lm.step (k : Int) ac) fm6)) := by
   refine (HT4.out.below HB5.out).locked (B.lm.step (k : Int) ac) fm6 (S.locks.set (K.of (S.ask K k).key) (-1)) HT6.out HM6.out ?_ HF6.out (by rw [List.length_set]; exact HTO.out.ok.lkl)
   rw [← HAC.out]
   exact HTO.out.is.doUnlock (K.of (S.ask K k).key) (TabIs.shLt HK _) k (by have := HK.wn; omega) ((HTO.out.ok.each k hk).lock (by omega) (by omega))
  have HU : Hid (Calls Tryz.prog 28 #[.pointer (some ⟨t, 0, none⟩), .int .i64 (k : Nat), .pointer (some ⟨B.hb k, 0, none⟩)] w6 (UnTell w6 base t K (lockS S (S.steps + 1) (S.locks.set (K.of (S.ask K k).key) (-1))) (lockB B (B.lm.step (k : Int) ac) fm6) k (endV (S.ask K k) (S.hand k).found (B.hv k)))) := unlocked_any HT6'.out k hk hp hnl hcall hsz
  have hwr4 : But (B.fp K t) wc W4 := ⟨fun j _ hj => HO4.out j (fun e => hj (e ▸ wr_fp (.inl rfl))), by rw [HZ4.out]; exact Nat.le_refl _⟩
  have hbs : base ≤ W.heap.size := by have := (HTO.out.is.ap t (.inl rfl)).2; omega
  have hz4 : W.heap.size ≤ W4.heap.size := by rw [HZ4.out]; exact HBC.out.size
  have HFIN : Hid (∀ w7, UnTell w6 base t K (lockS S (S.steps + 1) (S.locks.set (K.of (S.ask K k).key) (-1))) (lockB B (B.lm.step (k : Int) ac) fm6) k (endV (S.ask K k) (S.hand k).found (B.hv k)) (.returned (.tuple #[])) w7 → TStep W base t K B (S.stepN K k) (.returned (.tuple #[])) w7) := fun w7 h7 => by
   refine unl_done HK HTO.out k hk hp hcan hx ?_ ?_ ?_ h7
   ·refine (But.below HBC.out (hwr4.trans ((But.of_below HB5.out).trans ⟨fun j hl hj => HT6.out.block j hl (fun e => hj (.inr e)), HT6.out.size⟩)))
   ·exact (((HBC.out.mono hbs).trans HB4.out).trans (HB5.out.mono (by omega))).trans HB6.out
   ·exact fun j hj => (HF6.out j hj).imp id (fun e => by have := HB5.out.size; omega)
  clear hx hn hcan
  go_wp2_with (go_at_call 28; (with_reducible refine HU.out.mono ?_); rintro e w7 ⟨rfl, h7⟩; have H7 := hid h7; clear h7)
  refine bodyPost_end (v := .tuple #[]) (by simp [results, Tryz.results7, go_sem]) rfl ?_
  exact HFIN.out w7 ⟨rfl, H7.out⟩
end Go.Proofs.YtabkmdhkfbcldaaGreat
