/-
 Step: the walk, state 0.
 Step of the code's table, of any worker.
 slices.Clone of asks and of calls.
 copy at elements of more than one cell.
 slices.Repeat of one cell.
 New of the code's table: what is wrong with its arguments; its loops.
 New of the code's table: what lies where, list by list.
-/
import Derived.Test.YtabkmdhkfbcldaaGreatJL8
import Derived.Test.YtabkmdhkfbcldaaGreatJL7
import Derived.Test.YtabkmdhkfbcldaaGreatJL0
import Derived.Laws.CopyOwn
import Derived.Test.YtabkmdhkfbcldaaGreatShelf
import Derived.Deep.AppendLies
import Derived.Deep.CutRange
namespace Go.Proofs.YtabkmdhkfbcldaaGreat
open Go.RowKit
variable {W W' : World} {base t : Nat} {K : Wk} {S : Sh} {B : TB}
set_option maxRecDepth 20000 in
set_option maxHeartbeats 2000000 in
theorem step0_any (H : TOk W base t K S B) (HK : WkOk K) (k : Nat) (hk : k < K.work.length) (hcan : S.canN K k = true) (hx : (S.hand k).at_ = 0) (hst : S.steps ≤ 1000000) (hsz : (K.own k).length ≤ 1000000) :
  Calls Tryz.prog 7 #[.pointer (some ⟨t, 0, none⟩), .int .i64 (k : Nat)] W (TStep W base t K B (S.stepN K k)) := by
 have HCAN := hid hcan
 have HX0 := hid hx
 have HTO := hid H
 have hn := H.ok.nx hk (can_facts hcan).1
 have hp : B.pr k = false := by
  cases e : B.pr k with
  | false => rfl
  | true => exact absurd hx (H.pr k e).2
 have HD := hid (done_any H.is (k : Int))
 have hdf : S.doneI K (k : Int) = false := by
  unfold Sh.doneI
  rw [Int.toNat_natCast, (can_facts hcan).1]
  simp; omega
 have HW := hid (fun (w1 : World) (hb : Below W.heap.size W w1) => twaits_any (H.is.below hb) HK (k : Int))
 have hwf : S.waitsI K (k : Int) = false := by unfold Sh.waitsI; rw [Int.toNat_natCast, (can_facts hcan).2, hdf]; rfl
 rw [hwf] at HW
 rw [hdf] at HD
 have HBG := hid (fun (w1 : World) (hb : Below W.heap.size W w1) => begins_any (H.is.below hb) HK k hk hn (by have := H.ok.cnt; omega))
 have HM := hid (fun (w1 : World) (hb : Below W.heap.size W w1) => H.is.hands.below hb H.is.hands.lt)
 have HL := hid (H.is.free k hp).1
 have HZ := hid (fun w1 : World => (show (zeroValue 68).run Tryz.prog w1 = .ok (.pointer none) w1 by kernel_rfl))
 have hlt := (Array.getElem?_eq_some_iff.1 H.is.head).1
 obtain ⟨c0, c1, c2, c3, c4, c5, c6, c7, c8⟩ := tab_cells H.is.head
 have g4 : ∀ w', Below W.heap.size W w' → w'.cell? ⟨t, 4, none⟩ = some (.map (some B.bh)) := fun w' hb => (hb.cell (p := ⟨t, 4, none⟩) hlt).trans c4
 have HG4 := hid g4
 clear hdf hwf c0 c1 c2 c3 c4 c5 c6 c7 c8 H g4
 go_enter Tryz.func7, Tryz.ntmps7
 go_upto_region 3 with (first
  | (go_at_call 17; (with_reducible refine HD.out.mono ?_); rintro e w1 ⟨rfl, q1, rfl⟩)
  | (go_at_call 23; (with_reducible refine (HW.out _ (below_drewN (Below.refl _ _) q1)).mono ?_); rintro e w2 ⟨rfl, hb2⟩; have HB2 := hid (below_more hb2 (below_drewN (Below.refl _ _) q1) (Nat.le_refl _)); clear hb2; have G4 := HG4.out w2 HB2.out)
  | ((with_reducible show wpList _ _ _ (⟨some 19, _, _, _, _, _⟩ :: _) _ _); refine wpList_maplook KInt Tryz.underlying53 rfl (.tmp 17) (.tmp 18) false rfl (.pointer none) (HZ.out _) B.bh B.hm rfl (HM.out _ HB2.out) (k : Int) rfl ?_; rw [HL.out])
  | (go_at_call 24; (with_reducible refine (HBG.out _ HB2.out).mono ?_); rintro e w5 ⟨rfl, hbg⟩; have HBT := hid hbg; clear hbg))
 clear G4 HG4 HM HL HD HW hx hn HBG
 obtain ⟨nb, vp', hT2, hbut5, hnb5, hl5, hv5⟩ := HBT.out
 have HT2 := hid hT2
 have HWB : Hid (Below W.heap.size W w2) := HB2.out
 obtain ⟨S2, hS2⟩ : ∃ S2, S2 = S.beginN K k := ⟨_, rfl⟩
 obtain ⟨B2, hB2⟩ : ∃ B2, B2 = B.begin k nb vp' := ⟨_, rfl⟩
 rw [← hS2, ← hB2] at HT2
 have hp2 : B2.pr k = true := by rw [hB2]; exact if_pos rfl
 have hhb : B2.hb k = nb := by rw [hB2]; exact if_pos rfl
 have hx2 : (S2.hand k).at_ = 0 := by rw [hS2]; unfold Sh.beginN; rw [setH_hand _ _ (by show k < S.hands.length; rw [HTO.out.ok.hnl]; exact hk), if_pos rfl]
 have hnl : S2.next.getD k 0 < (K.own k).length := by rw [hS2]; exact HTO.out.ok.nx hk (can_facts hcan).1
 have hst2 : S2.steps ≤ 1000000 := by rw [hS2]; exact hst
 have hask : S2.ask K k = S.ask K k := by rw [hS2]; rfl
 have HA := hid (fun (w1 : World) (hb : Below w5.heap.size w5 w1) => ask_any (HT2.out.below hb) k hk hnl)
 rw [hask] at HA
 have HM := hid (fun (w1 : World) (hb : Below w5.heap.size w5 w1) => HT2.out.hands.below hb HT2.out.hands.lt)
 have HL := hid (HT2.out.hand k hp2).1
 have hlt5 := (Array.getElem?_eq_some_iff.1 HT2.out.head).1
 have hh5 := HT2.out.head
 obtain ⟨c0, c1, c2, c3, c4, c5, c6, c7, c8⟩ := tab_cells hh5
 have g4 : ∀ w', Below w5.heap.size w5 w' → w'.cell? ⟨t, 4, none⟩ = some (.map (some B2.bh)) := fun w' hb => (hb.cell (p := ⟨t, 4, none⟩) hlt5).trans c4
 have HG4 := hid g4
 generalize hak : S.ask K k = ak at HA
 have HAK := hid hak
 have HS2 := hid hS2
 have HB22 := hid hB2
 have HHB := hid hhb
 have HASK := hid hask
 clear hak c0 c1 c2 c3 c4 c5 c6 c7 c8 g4 hB2 hhb hask hh5 HB2 hS2 hst hlt hcan hp hT2
 have HB2 : Hid (Below w5.heap.size w5 w5) := Below.refl _ _
 have HB5' := hid hbut5
 have HNB := hid hnb5
 have HL5 := hid hl5
 have HV5 := hid hv5
 clear hbut5 hnb5 hl5 hv5
 have HW2 : Hid (Below w5.heap.size w5 w5) := HB2.out
 have g4 := HG4.out
 have hlk : ∀ w', Below w5.heap.size w5 w' → (Instr.lookup 53 (.map (some B2.bh)) (.int .i64 (k : Nat)) false).run Tryz.prog w' = .ok (.pointer (some ⟨B2.hb k, 0, none⟩)) w' := fun w' hb => by
  have hr := (HM.out w' hb).run_lookup KInt Tryz.underlying53 (HZ.out w') (k : Int) false
  rw [HL.out] at hr
  exact hr
 go_cut [4, 5] (fun v c wx => AkV w5 ak v wx ∧ c = .pointer (some ⟨B2.hb k, 0, none⟩))
 case first =>
  refine wp_region_held_drew (S := fun w' => Below w5.heap.size w5 w') (by kernel_rfl) HW2.out.drew (fun hHeld => ?_)
  refine wpAnyH_take (i := 0) (oi := { dst := some 24, op := Op.move (Operand.tmp 0), type := 26, pos := "shard.go:177", after := #[], guard := none }) (v := ?sav0) rfl (by kernel_rfl) (by kernel_rfl) (by kernel_rfl) (fun _ _ _ h => h) (Or.inl ⟨by rfl, ?sah0⟩) (by assumption) ?sar0
  case sah0 => ((intro w hSw; (try dsimp only at hSw); go_simp); try with_reducible rfl)
  try simp only [Act.put, List.setIfInBounds_toArray, List.set_cons_zero, List.set_cons_succ]
  refine wpAnyH_take (i := 1) (oi := { dst := some 25, op := Op.move (Operand.tmp 1), type := 3, pos := "shard.go:177", after := #[], guard := none }) (v := ?sav1) rfl (by kernel_rfl) (by kernel_rfl) (by kernel_rfl) (fun _ _ _ h => h) (Or.inl ⟨by rfl, ?sah1⟩) (by assumption) ?sar1
  case sah1 => ((intro w hSw; (try dsimp only at hSw); go_simp); try with_reducible rfl)
  try simp only [Act.put, List.setIfInBounds_toArray, List.set_cons_zero, List.set_cons_succ]
  refine wpAnyH_take (i := 3) (oi := { dst := some 27, op := Op.move (Operand.tmp 0), type := 26, pos := "shard.go:177", after := #[{ on := 10, ground := Ground.gcOnly Departure.lateStores }], guard := none }) (v := ?sav3) rfl (by kernel_rfl) (by kernel_rfl) (by kernel_rfl) (fun _ _ _ h => h) (Or.inl ⟨by rfl, ?sah3⟩) (by assumption) ?sar3
  case sah3 => ((intro w hSw; (try dsimp only at hSw); go_simp); try with_reducible rfl)
  try simp only [Act.put, List.setIfInBounds_toArray, List.set_cons_zero, List.set_cons_succ]
  refine wpAnyH_take (i := 4) (oi := { dst := some 28, op := Op.nilCheck (Operand.tmp 27), type := 0, pos := "shard.go:177", after := #[{ on := 3, ground := Ground.data }, { on := 10, ground := Ground.gcOnly Departure.lateStores }], guard := none }) (v := ?sav4) rfl (by kernel_rfl) (by kernel_rfl) (by kernel_rfl) (fun _ _ _ h => h) (Or.inl ⟨by rfl, ?sah4⟩) (by assumption) ?sar4
  case sah4 => ((intro w hSw; (try dsimp only at hSw); go_simp); try with_reducible rfl)
  try simp only [Act.put, List.setIfInBounds_toArray, List.set_cons_zero, List.set_cons_succ]
  refine wpAnyH_take (i := 5) (oi := { dst := some 29, op := Op.fieldAddr 58 (Operand.tmp 28) 4, type := 0, pos := "shard.go:177", after := #[{ on := 4, ground := Ground.data }, { on := 10, ground := Ground.gcOnly Departure.lateStores }], guard := none }) (v := ?sav5) rfl (by kernel_rfl) (by kernel_rfl) (by kernel_rfl) (fun _ _ _ h => h) (Or.inl ⟨by rfl, ?sah5⟩) (by assumption) ?sar5
  case sah5 => ((intro w hSw; (try dsimp only at hSw); go_simp); try with_reducible rfl)
  try simp only [Act.put, List.setIfInBounds_toArray, List.set_cons_zero, List.set_cons_succ]
  refine wpAnyH_take (i := 6) (oi := { dst := some 30, op := Op.load 53 (Operand.tmp 29), type := 53, pos := "shard.go:177", after := #[{ on := 5, ground := Ground.data }, { on := 10, ground := Ground.gcOnly Departure.lateStores }], guard := none }) (v := ?sav6) rfl (by kernel_rfl) (by kernel_rfl) (by kernel_rfl) (fun _ _ _ h => h) (Or.inl ⟨by rfl, ?sah6⟩) (by assumption) ?sar6
  case sah6 => ((intro w hSw; (try dsimp only at hSw); go_simp); try with_reducible rfl)
  try simp only [Act.put, List.setIfInBounds_toArray, List.set_cons_zero, List.set_cons_succ]
  refine wpAnyH_take (i := 7) (oi := { dst := some 31, op := Op.move (Operand.tmp 1), type := 3, pos := "shard.go:177", after := #[{ on := 10, ground := Ground.gcOnly Departure.lateStores }], guard := none }) (v := ?sav7) rfl (by kernel_rfl) (by kernel_rfl) (by kernel_rfl) (fun _ _ _ h => h) (Or.inl ⟨by rfl, ?sah7⟩) (by assumption) ?sar7
  case sah7 => ((intro w hSw; (try dsimp only at hSw); go_simp); try with_reducible rfl)
  try simp only [Act.put, List.setIfInBounds_toArray, List.set_cons_zero, List.set_cons_succ]
  refine wpAnyH_take (i := 8) (oi := { dst := some 32, op := Op.lookup 53 (Operand.tmp 30) (Operand.tmp 31) false, type := 68, pos := "shard.go:177", after := #[{ on := 6, ground := Ground.data }, { on := 7, ground := Ground.data }, { on := 10, ground := Ground.gcOnly Departure.lateStores }], guard := none }) (v := ?sav8) rfl (by kernel_rfl) (by kernel_rfl) (by kernel_rfl) (fun _ _ _ h => h) (Or.inl ⟨by rfl, ?sah8⟩) (by assumption) ?sar8
  case sah8 => ((intro w hSw; (try dsimp only at hSw); go_simp); try with_reducible rfl)
  try simp only [Act.put, List.setIfInBounds_toArray, List.set_cons_zero, List.set_cons_succ]
  refine wpAnyH_ready (rs := [2, 9]) (by kernel_rfl) (by simp) ?_
  refine AllReadyH.cons (o := { dst := some 26, op := Op.call { callee := Callee.value (Operand.func 25), args := #[Operand.tmp 24, Operand.tmp 25], argTypes := #[26, 3] }, type := 46, pos := "shard.go:177", after := #[{ on := 0, ground := Ground.data }, { on := 1, ground := Ground.data }], guard := none }) rfl (fun K hK => ?_) ?_
  ·go_simp
   go_at_call 25; (with_reducible refine (HA.out _ (by first | exact HW2.out.drew | exact (HW2.out.alloc HW2.out.size _).drew)).mono ?_); rintro e w3 ⟨rfl, hb3⟩; have hq3 : Below w5.heap.size w5 w3 := below_more hb3 (by first | exact HW2.out.drew | exact (HW2.out.alloc HW2.out.size _).drew) (Nat.le_refl _); try (have hblk := (hb3.block w5.heap.size (by simp)).trans (heap_alloc_new w5 _); have f0 := frozen_of_row _ _ 0 _ _ hblk; have f1 := frozen_of_row _ _ 1 _ _ hblk; have f2 := frozen_of_row _ _ 2 _ _ hblk; have z0 := cell_of_row _ _ 0 _ _ _ hblk; have z1 := cell_of_row _ _ 1 _ _ _ hblk; have z2 := cell_of_row _ _ 2 _ _ _ hblk; have HBLK := hid hblk; clear hblk); clear hb3
   refine hK.out _ _ (by assumption) (fun hHeld => ?_)
   clear hK K
   try simp only [Act.put, List.setIfInBounds_toArray, List.set_cons_zero, List.set_cons_succ]
   refine wpAnyH_ready (rs := [9]) (by kernel_rfl) (by simp) ?_
   refine AllReadyH.cons (o := { dst := some 4, op := Op.alloc 46, type := 0, pos := "shard.go:177", after := #[], guard := none }) rfl (fun K hK => ?_) AllReadyH.nil
   go_simp; refine hK.out _ _ (by first | exact (HW2.out.alloc HW2.out.size _).drew | exact hq3.alloc hq3.size _) (fun hHeld => ?_)
   clear hK K
   try simp only [Act.put, List.setIfInBounds_toArray, List.set_cons_zero, List.set_cons_succ]
   refine wpAnyH_ready (rs := [10]) (by kernel_rfl) (by simp) ?_
   refine AllReadyH.cons (o := { dst := none, op := Op.store 46 (Operand.tmp 4) (Operand.tmp 26), type := 0, pos := "shard.go:177", after := #[{ on := 9, ground := Ground.data }, { on := 2, ground := Ground.data }, { on := 2, ground := Ground.chain }, { on := 0, ground := Ground.phase }, { on := 1, ground := Ground.phase }, { on := 2, ground := Ground.phase }, { on := 3, ground := Ground.textOnly Departure.lateStores }, { on := 4, ground := Ground.textOnly Departure.lateStores }, { on := 5, ground := Ground.textOnly Departure.lateStores }, { on := 6, ground := Ground.textOnly Departure.lateStores }, { on := 7, ground := Ground.textOnly Departure.lateStores }, { on := 8, ground := Ground.textOnly Departure.lateStores }, { on := 9, ground := Ground.phase }], guard := none }) rfl (fun K hK => ?_) AllReadyH.nil
   go_simp; refine hK.out _ _ (by first | exact hq3.alloc hq3.size _ | exact ((hq3.setCell HW2.out.size _).setCell HW2.out.size _).setCell HW2.out.size _) (fun hHeld => ?_)
   clear hK K
   try simp only [Act.put, List.setIfInBounds_toArray, List.set_cons_zero, List.set_cons_succ]
   refine wpAnyH_take (i := 11) (oi := { dst := some 5, op := Op.assign (Operand.tmp 32), type := 68, pos := "shard.go:177", after := #[{ on := 8, ground := Ground.data }, { on := 10, ground := Ground.chain }, { on := 0, ground := Ground.phase }, { on := 1, ground := Ground.phase }, { on := 2, ground := Ground.phase }, { on := 3, ground := Ground.phase }, { on := 4, ground := Ground.phase }, { on := 5, ground := Ground.phase }, { on := 6, ground := Ground.phase }, { on := 7, ground := Ground.phase }, { on := 8, ground := Ground.phase }, { on := 9, ground := Ground.phase }, { on := 10, ground := Ground.phase }], guard := none }) (v := ?saav11) rfl (by kernel_rfl) (by kernel_rfl) (by kernel_rfl) (fun _ _ _ h => h) (Or.inl ⟨by rfl, ?saah11⟩) (by assumption) ?saar11
   case saah11 => ((intro w hSw; (try dsimp only at hSw); go_simp); try with_reducible rfl)
   try simp only [Act.put, List.setIfInBounds_toArray, List.set_cons_zero, List.set_cons_succ]
   refine wpAnyH_done (by kernel_rfl) ?_ _
   go_wp2_with fail
   go_meet
   first | exact ⟨⟨_, rfl, hq3.size, heap_alloc_new w3 _, hq3.alloc hq3.size _⟩, rfl⟩ | exact ⟨⟨_, rfl, HW2.out.size, heap_setCell_same _ _ 2 _ _ _ (heap_setCell_same _ _ 1 _ _ _ (heap_setCell_same _ _ 0 _ _ _ HBLK.out)), ((hq3.setCell HW2.out.size _).setCell HW2.out.size _).setCell HW2.out.size _⟩, rfl⟩
  refine AllReadyH.cons (o := { dst := some 4, op := Op.alloc 46, type := 0, pos := "shard.go:177", after := #[], guard := none }) rfl (fun K hK => ?_) AllReadyH.nil
  go_simp; refine hK.out _ _ (by first | exact (HW2.out.alloc HW2.out.size _).drew | exact hq3.alloc hq3.size _) (fun hHeld => ?_)
  clear hK K
  try simp only [Act.put, List.setIfInBounds_toArray, List.set_cons_zero, List.set_cons_succ]
  refine wpAnyH_ready (rs := [2]) (by kernel_rfl) (by simp) ?_
  refine AllReadyH.cons (o := { dst := some 26, op := Op.call { callee := Callee.value (Operand.func 25), args := #[Operand.tmp 24, Operand.tmp 25], argTypes := #[26, 3] }, type := 46, pos := "shard.go:177", after := #[{ on := 0, ground := Ground.data }, { on := 1, ground := Ground.data }], guard := none }) rfl (fun K hK => ?_) AllReadyH.nil
  go_simp
  go_at_call 25; (with_reducible refine (HA.out _ (by first | exact HW2.out.drew | exact (HW2.out.alloc HW2.out.size _).drew)).mono ?_); rintro e w3 ⟨rfl, hb3⟩; have hq3 : Below w5.heap.size w5 w3 := below_more hb3 (by first | exact HW2.out.drew | exact (HW2.out.alloc HW2.out.size _).drew) (Nat.le_refl _); try (have hblk := (hb3.block w5.heap.size (by simp)).trans (heap_alloc_new w5 _); have f0 := frozen_of_row _ _ 0 _ _ hblk; have f1 := frozen_of_row _ _ 1 _ _ hblk; have f2 := frozen_of_row _ _ 2 _ _ hblk; have z0 := cell_of_row _ _ 0 _ _ _ hblk; have z1 := cell_of_row _ _ 1 _ _ _ hblk; have z2 := cell_of_row _ _ 2 _ _ _ hblk; have HBLK := hid hblk; clear hblk); clear hb3
  refine hK.out _ _ (by assumption) (fun hHeld => ?_)
  clear hK K
  try simp only [Act.put, List.setIfInBounds_toArray, List.set_cons_zero, List.set_cons_succ]
  refine wpAnyH_ready (rs := [10]) (by kernel_rfl) (by simp) ?_
  refine AllReadyH.cons (o := { dst := none, op := Op.store 46 (Operand.tmp 4) (Operand.tmp 26), type := 0, pos := "shard.go:177", after := #[{ on := 9, ground := Ground.data }, { on := 2, ground := Ground.data }, { on := 2, ground := Ground.chain }, { on := 0, ground := Ground.phase }, { on := 1, ground := Ground.phase }, { on := 2, ground := Ground.phase }, { on := 3, ground := Ground.textOnly Departure.lateStores }, { on := 4, ground := Ground.textOnly Departure.lateStores }, { on := 5, ground := Ground.textOnly Departure.lateStores }, { on := 6, ground := Ground.textOnly Departure.lateStores }, { on := 7, ground := Ground.textOnly Departure.lateStores }, { on := 8, ground := Ground.textOnly Departure.lateStores }, { on := 9, ground := Ground.phase }], guard := none }) rfl (fun K hK => ?_) AllReadyH.nil
  go_simp; refine hK.out _ _ (by first | exact hq3.alloc hq3.size _ | exact ((hq3.setCell HW2.out.size _).setCell HW2.out.size _).setCell HW2.out.size _) (fun hHeld => ?_)
  clear hK K
  try simp only [Act.put, List.setIfInBounds_toArray, List.set_cons_zero, List.set_cons_succ]
  refine wpAnyH_take (i := 11) (oi := { dst := some 5, op := Op.assign (Operand.tmp 32), type := 68, pos := "shard.go:177", after := #[{ on := 8, ground := Ground.data }, { on := 10, ground := Ground.chain }, { on := 0, ground := Ground.phase }, { on := 1, ground := Ground.phase }, { on := 2, ground := Ground.phase }, { on := 3, ground := Ground.phase }, { on := 4, ground := Ground.phase }, { on := 5, ground := Ground.phase }, { on := 6, ground := Ground.phase }, { on := 7, ground := Ground.phase }, { on := 8, ground := Ground.phase }, { on := 9, ground := Ground.phase }, { on := 10, ground := Ground.phase }], guard := none }) (v := ?sabv11) rfl (by kernel_rfl) (by kernel_rfl) (by kernel_rfl) (fun _ _ _ h => h) (Or.inl ⟨by rfl, ?sabh11⟩) (by assumption) ?sabr11
  case sabh11 => ((intro w hSw; (try dsimp only at hSw); go_simp); try with_reducible rfl)
  try simp only [Act.put, List.setIfInBounds_toArray, List.set_cons_zero, List.set_cons_succ]
  refine wpAnyH_done (by kernel_rfl) ?_ _
  go_wp2_with fail
  go_meet
  first | exact ⟨⟨_, rfl, hq3.size, heap_alloc_new w3 _, hq3.alloc hq3.size _⟩, rfl⟩ | exact ⟨⟨_, rfl, HW2.out.size, heap_setCell_same _ _ 2 _ _ _ (heap_setCell_same _ _ 1 _ _ _ (heap_setCell_same _ _ 0 _ _ _ HBLK.out)), ((hq3.setCell HW2.out.size _).setCell HW2.out.size _).setCell HW2.out.size _⟩, rfl⟩
 case rest =>
  obtain ⟨⟨b, rfl, hbz, hbb, hbc⟩, rfl⟩ := hcut
  clear hlk g4
  have HBC := hid hbc
  have HBB := hid hbb
  have hT := HT2.out.below hbc
  have htb : t ≠ b := by have := hlt5; omega
  have hh1 := hT.head
  obtain ⟨c0, c1, c2, c3, c4, c5, c6, c7, c8⟩ := tab_cells hh1
  have cf8 := frozen_of_row _ _ 8 _ _ hh1
  have HT := hid hT
  clear c0 c1 c2 c3 c4 c5 c6 c7 hh1 hbc hbb hT
  go_upto_region 5 with fail
  obtain ⟨W4, hW4⟩ : ∃ W4, W4 = wc.setCell ⟨t, 8, none⟩ (.int .i64 ((S2.steps : Nat) + 1)) := ⟨_, rfl⟩
  rw [← hW4]
  have HO4 : Hid (∀ j, j ≠ t → W4.heap[j]? = wc.heap[j]?) := fun j hj => by rw [hW4]; exact heap_setCell_other _ _ _ _ hj
  have HH4 : Hid (W4.heap[t]? = some (tabO B2 K (S2.steps + 1))) := by
   rw [hW4]
   have e := heap_setCell_same wc t 8 _ _ (.int .i64 ((S2.steps : Nat) + 1)) HT.out.head
   have e2 : ((S2.steps + 1 : Nat) : Int) = (S2.steps : Int) + 1 := by omega
   unfold tabO
   rw [e2]
   exact e
  have HZ4 : Hid (W4.heap.size = wc.heap.size) := by rw [hW4]; simp [Hid]
  have HB4 : Hid (Below base wc W4) := by rw [hW4]; exact (Below.refl _ _).setCell (HT2.out.ap t (.inl rfl)).2.1 _
  clear hW4 c8 cf8
  have hgt : B2.hb k ≠ t := tag_ne (HT.out.tagHand k hp2) HT.out.tagT (by decide)
  have hG4 : W4.heap[B2.hb k]? = some (handO (S2.hand k) (B2.hv k)) := (HO4.out _ hgt).trans (HT.out.hand k hp2).2
  have hA4 : W4.heap[b]? = some (.cells #[.int .i64 ak.kind, .string ak.key, .int .i64 ak.value] 46 (0, 0)) := (HO4.out _ (Ne.symm htb)).trans HBB.out
  have hgb : b ≠ B2.hb k := by have := (HT2.out.ap _ (.inr (.inr (.inr (.inr (.inr (.inr (.inr (.inr ⟨k, hp2, rfl⟩))))))))).2.2; omega
  have q1 : W4.cell? ⟨B2.hb k, 1, none⟩ = some (.int .i64 ((S2.hand k).at_ : Nat)) := cell_of_row _ _ 1 _ _ _ hG4
  rw [hx2] at q1
  have HG4' := hid hG4
  have HA4 := hid hA4
  have hbeg : base ≤ B2.hb k := (HT2.out.ap _ (.inr (.inr (.inr (.inr (.inr (.inr (.inr (.inr ⟨k, hp2, rfl⟩))))))))).2.1
  have HV4 : Hid (MapIs Value.string (Value.int .i64) W4 B2.bv B2.vm) := by
   obtain ⟨es, c, he, F⟩ := HT.out.vals
   exact ⟨es, c, (HO4.out _ (tag_ne (map_tag HT.out.vals) HT.out.tagT (by decide))).trans he, F⟩
  have HD4 : Hid (MapIs Value.string Value.bool W4 B2.bt B2.tm) := by
   obtain ⟨es, c, he, F⟩ := HT.out.told
   exact ⟨es, c, (HO4.out _ (tag_ne (map_tag HT.out.told) HT.out.tagT (by decide))).trans he, F⟩
  have HT4 : Hid (TabIs W4 base t K { S2 with steps := S2.steps + 1 } B2) := by
   have e := HT.out.poked k hk hp2 (S2.hand k) (B2.hv k) (S2.steps + 1) S2.rows B2.vm B2.tm (W' := W4) ⟨fun j _ hj => HO4.out j (fun e => hj (.inl e)), by rw [HZ4.out]; exact Nat.le_refl _⟩ HH4.out hG4 HV4.out HT2.out.valIs HD4.out HT2.out.toldIs
   rw [poke_self, pokeS_self S2 k (by rw [HT2.out.hnl]; exact hk)] at e
   exact e
  go_upto_region 8 with fail
  have htl4 : t < W4.heap.size := (Array.getElem?_eq_some_iff.1 HH4.out).1
  have HLK := hid (tlock_any (HT4.out.below (Below.refl _ W4).drew) HK k hk hnl 3)
  have HDO := hid (fun (w1 : World) (hb : Below W4.heap.size W4 w1) => do_any (HT4.out.mem.below hb) (k : Int) ⟨3, (K.of (S2.ask K k).key : Nat), 0, 0⟩)
  have a0 : ∀ w' : World, w'.heap[t]? = some (tabO B2 K (S2.steps + 1)) → w'.cell? ⟨t, 0, none⟩ = some (.pointer (some ⟨B2.m, 0, none⟩)) := fun w' h => cell_of_row w' _ 0 _ _ _ h
  have hS4 : W4.drew.heap[t]? = some (tabO B2 K (S2.steps + 1)) := HH4.out
  have HLK' : Hid (Calls Tryz.prog 27 #[.pointer (some ⟨t, 0, none⟩), .int .i64 (k : Nat), .int .i64 3] W4.drew fun e w' => e = .returned (Ac.val ⟨3, (K.of (S2.ask K k).key : Nat), 0, 0⟩) ∧ Below W4.heap.size W4 w') := HLK.out.mono fun _ _ h => ⟨h.1, (Below.refl _ W4).drew.trans h.2⟩
  clear HLK
  generalize hac : (⟨3, (K.of (S2.ask K k).key : Nat), 0, 0⟩ : Ac) = ac at *
  have HAC := hid hac
  clear hac
  generalize hav : ac.val = av at HLK' HDO
  clear hav
  have hTB : t < W4.heap.size ∧ ¬ B2.fm t := ⟨htl4, (HT2.out.ap t (.inl rfl)).1⟩
  have HTBB := hid hTB
  clear hG4 hA4 htl4 hTB
  refine wp_region_held_drew (S := fun w' : World => w'.heap[t]? = some (tabO B2 K (S2.steps + 1))) (by kernel_rfl) hS4 (fun hHeld => ?_)
  refine wpAnyH_take (i := 0) (oi := { dst := some 56, op := Op.move (Operand.tmp 0), type := 26, pos := "shard.go:181", after := #[], guard := none }) (v := ?slv0) rfl (by kernel_rfl) (by kernel_rfl) (by kernel_rfl) (fun _ _ _ h => h) (Or.inl ⟨by rfl, ?slh0⟩) (by assumption) ?slr0
  case slh0 => ((intro w hSw; (try dsimp only at hSw); go_simp); try with_reducible rfl)
  try simp only [Act.put, List.setIfInBounds_toArray, List.set_cons_zero, List.set_cons_succ]
  refine wpAnyH_take (i := 1) (oi := { dst := some 57, op := Op.nilCheck (Operand.tmp 56), type := 0, pos := "shard.go:181", after := #[{ on := 0, ground := Ground.data }], guard := none }) (v := ?slv1) rfl (by kernel_rfl) (by kernel_rfl) (by kernel_rfl) (fun _ _ _ h => h) (Or.inl ⟨by rfl, ?slh1⟩) (by assumption) ?slr1
  case slh1 => ((intro w hSw; (try dsimp only at hSw); go_simp); try with_reducible rfl)
  try simp only [Act.put, List.setIfInBounds_toArray, List.set_cons_zero, List.set_cons_succ]
  refine wpAnyH_take (i := 2) (oi := { dst := some 58, op := Op.fieldAddr 58 (Operand.tmp 57) 0, type := 0, pos := "shard.go:181", after := #[{ on := 1, ground := Ground.data }], guard := none }) (v := ?slv2) rfl (by kernel_rfl) (by kernel_rfl) (by kernel_rfl) (fun _ _ _ h => h) (Or.inl ⟨by rfl, ?slh2⟩) (by assumption) ?slr2
  case slh2 => ((intro w hSw; (try dsimp only at hSw); go_simp); try with_reducible rfl)
  try simp only [Act.put, List.setIfInBounds_toArray, List.set_cons_zero, List.set_cons_succ]
  refine wpAnyH_take (i := 3) (oi := { dst := some 59, op := Op.load 56 (Operand.tmp 58), type := 56, pos := "shard.go:181", after := #[{ on := 2, ground := Ground.data }], guard := none }) (v := ?slv3) rfl (by kernel_rfl) (by kernel_rfl) (by kernel_rfl) (fun _ _ _ h => h) (Or.inl ⟨by rfl, ?slh3⟩) (by assumption) ?slr3
  case slh3 => ((intro w hSw; (try dsimp only at hSw); go_simp); try with_reducible rfl)
  try simp only [Act.put, List.setIfInBounds_toArray, List.set_cons_zero, List.set_cons_succ]
  refine wpAnyH_take (i := 4) (oi := { dst := some 60, op := Op.move (Operand.tmp 1), type := 3, pos := "shard.go:181", after := #[], guard := none }) (v := ?slv4) rfl (by kernel_rfl) (by kernel_rfl) (by kernel_rfl) (fun _ _ _ h => h) (Or.inl ⟨by rfl, ?slh4⟩) (by assumption) ?slr4
  case slh4 => ((intro w hSw; (try dsimp only at hSw); go_simp); try with_reducible rfl)
  try simp only [Act.put, List.setIfInBounds_toArray, List.set_cons_zero, List.set_cons_succ]
  refine wpAnyH_take (i := 5) (oi := { dst := some 61, op := Op.move (Operand.tmp 0), type := 26, pos := "shard.go:181", after := #[], guard := none }) (v := ?slv5) rfl (by kernel_rfl) (by kernel_rfl) (by kernel_rfl) (fun _ _ _ h => h) (Or.inl ⟨by rfl, ?slh5⟩) (by assumption) ?slr5
  case slh5 => ((intro w hSw; (try dsimp only at hSw); go_simp); try with_reducible rfl)
  try simp only [Act.put, List.setIfInBounds_toArray, List.set_cons_zero, List.set_cons_succ]
  refine wpAnyH_take (i := 6) (oi := { dst := some 62, op := Op.move (Operand.tmp 1), type := 3, pos := "shard.go:181", after := #[], guard := none }) (v := ?slv6) rfl (by kernel_rfl) (by kernel_rfl) (by kernel_rfl) (fun _ _ _ h => h) (Or.inl ⟨by rfl, ?slh6⟩) (by assumption) ?slr6
  case slh6 => ((intro w hSw; (try dsimp only at hSw); go_simp); try with_reducible rfl)
  try simp only [Act.put, List.setIfInBounds_toArray, List.set_cons_zero, List.set_cons_succ]
  refine wpAnyH_ready (rs := [7]) (by kernel_rfl) (by simp) ?_
  refine AllReadyH.cons (o := { dst := some 63, op := Op.call { callee := Callee.value (Operand.func 27), args := #[Operand.tmp 61, Operand.tmp 62, Operand.const (Value.int IntKind.i64 3)], argTypes := #[26, 3, 3] }, type := 75, pos := "shard.go:181", after := #[{ on := 5, ground := Ground.data }, { on := 6, ground := Ground.data }], guard := none }) rfl (fun K hK => ?_) AllReadyH.nil
  go_simp; go_at_call 27; (with_reducible refine HLK'.out.mono ?_); rintro e w9 ⟨rfl, hb5⟩; have HB5 := hid hb5; clear hb5; refine hK.out _ _ ((HB5.out.block t HTBB.out.1).trans HH4.out) (fun hHeld => ?_)
  clear hK K
  try simp only [Act.put, List.setIfInBounds_toArray, List.set_cons_zero, List.set_cons_succ]
  refine wpAnyH_ready (rs := [8]) (by kernel_rfl) (by simp) ?_
  refine AllReadyH.cons (o := { dst := some 64, op := Op.call { callee := Callee.value (Operand.func 26), args := #[Operand.tmp 59, Operand.tmp 60, Operand.tmp 63], argTypes := #[56, 3, 75] }, type := 72, pos := "shard.go:181", after := #[{ on := 3, ground := Ground.data }, { on := 4, ground := Ground.data }, { on := 7, ground := Ground.data }, { on := 7, ground := Ground.chain }], guard := none }) rfl (fun K hK => ?_) AllReadyH.nil
  go_simp; go_at_call 26; (with_reducible refine (HDO.out w9 HB5.out).mono ?_); rintro e w6 ⟨rfl, fm6, hm6, hf6, ht6, hb6⟩; have HM6 := hid hm6; have HF6 := hid hf6; have HT6 := hid ht6; have HB6 := hid hb6; clear hm6 hf6 ht6 hb6; refine hK.out _ _ ((HT6.out.block t (Nat.lt_of_lt_of_le HTBB.out.1 HB5.out.size) HTBB.out.2).trans ((HB5.out.block t HTBB.out.1).trans HH4.out)) (fun hHeld => ?_)
  clear hK K
  try simp only [Act.put, List.setIfInBounds_toArray, List.set_cons_zero, List.set_cons_succ]
  refine wpAnyH_done (by kernel_rfl) ?_ _
  skip
  have hcan : S.canN K k = true := HCAN.out
  have HT6' : Hid (TabIs w6 base t K (lockS (S.beginN K k) (S.steps + 1) (S.locks.set (K.of (S.ask K k).key) k)) (lockB (B.begin k nb vp') (B2.lm.step (k : Int) ac) fm6)) := by
   have e := (HT4.out.below HB5.out).locked (B2.lm.step (k : Int) ac) fm6 (S2.locks.set (K.of (S2.ask K k).key) k) HT6.out HM6.out (by
    rw [← HAC.out]
    refine HT2.out.doLock (K.of (S2.ask K k).key) (TabIs.shLt HK _) k (by have := HK.wn; omega) ?_
    rw [HASK.out, HS2.out]
    exact HTO.out.ok.free (TabIs.shLt HK) hcan HX0.out) HF6.out (by rw [List.length_set]; exact HT2.out.lkl)
   rw [HASK.out] at e
   have e1 : S2.locks = S.locks := by rw [HS2.out]; rfl
   have e2 : S2.steps = S.steps := by rw [HS2.out]; rfl
   rw [e1, e2, HB22.out] at e
   rw [HS2.out] at e
   rw [HB22.out]
   exact e
  have hbs : base ≤ W.heap.size := by have := (HTO.out.is.ap t (.inl rfl)).2; omega
  have hw25 : W.heap.size ≤ w5.heap.size := by have h1 := HWB.out.size; have h2 := HB5'.out.size; omega
  have hfm : ∀ j, B2.fm j → B.fm j := fun j hj => by rw [HB22.out] at hj; exact hj
  have hbut5 : But (fun b => B.fp K t b ∨ W.heap.size ≤ b) W w5 := But.below HWB.out (HB5'.out.mono (fun j hj => by
   rcases hj with e | e | e
   ·exact .inl (wr_fp (.inl e))
   ·exact .inl (wr_fp (.inr (.inl e)))
   ·exact .inl (wr_fp (.inr (.inr (.inr (.inr (.inr (.inl e)))))))))
  have HFIN : Hid (∀ w7, w7 = w6.setCell ⟨nb, 1, none⟩ (.int .i64 1) → TStep W base t K B (S.stepN K k) (.returned (.tuple #[])) w7) := fun w7 h7 => by
   refine beg_done HK HTO.out k hk hcan HX0.out (w2 := w2) (Nat.le_trans HWB.out.size HNB.out) (fun g hg => (HV5.out g hg).imp id (fun e => Nat.le_trans HWB.out.size e)) ?_ ?_ ?_ HT6'.out h7
   ·refine hbut5.trans (But.trans (But.of_below HBC.out) (But.trans ⟨fun j _ hj => HO4.out j (fun e => hj (.inl (e ▸ wr_fp (.inl rfl)))), by rw [HZ4.out]; exact Nat.le_refl _⟩ (But.trans (But.of_below HB5.out) ⟨fun j hl hj => HT6.out.block j hl (fun e => hj (.inl (.inr (hfm j e)))), HT6.out.size⟩)))
   ·have h1 := HWB.out.size
    have h2 := HBC.out.size
    exact ((((HWB.out.mono hbs).trans HL5.out).trans ((HBC.out.mono (by omega)).trans HB4.out)).trans (HB5.out.mono (by rw [HZ4.out]; omega))).trans HB6.out
   ·exact fun j hj => (HF6.out j hj).imp (hfm j) (fun e => by have h1 := HB5.out.size; have h2 := HBC.out.size; have h3 := HZ4.out; omega)
  have hg6 : w6.heap[nb]? = some (.cells #[.int .i64 ((((lockS (S.beginN K k) (S.steps + 1) (S.locks.set (K.of (S.ask K k).key) k)) : Sh).hand k).call : Nat), .int .i64 ((((lockS (S.beginN K k) (S.steps + 1) (S.locks.set (K.of (S.ask K k).key) k)) : Sh).hand k).at_ : Nat), .bool (((lockS (S.beginN K k) (S.steps + 1) (S.locks.set (K.of (S.ask K k).key) k)) : Sh).hand k).found, .int .i64 ((lockB (B.begin k nb vp') (B2.lm.step (k : Int) ac) fm6).hv k)] 71 (0, 0)) := by
   have e := (HT6'.out.hand k (if_pos rfl)).2
   have e2 : (lockB (B.begin k nb vp') (B2.lm.step (k : Int) ac) fm6).hb k = nb := if_pos rfl
   rw [e2] at e
   exact e
  have z1 := cell_of_row _ _ 1 _ _ _ hg6
  have zf := frozen_of_row _ _ 1 _ _ hg6
  clear hg6 hx2
  rw [HHB.out]
  go_wp2_with fail
  refine bodyPost_end (v := .tuple #[]) (by simp [results, Tryz.results7, go_sem]) rfl ?_
  exact HFIN.out _ rfl
end Go.Proofs.YtabkmdhkfbcldaaGreat
namespace Go.Proofs.YtabkmdhkfbcldaaGreat
open Go.RowKit
variable {W W' : World} {base t : Nat} {K : Wk} {S : Sh} {B : TB}
def Sh.stepI (S : Sh) (K : Wk) (w : Int) : Sh := if w < 0 then S else S.stepN K w.toNat
theorem TStep.stays (H : TOk W base t K S B) {w' : World} (hb : Below W.heap.size W w') : TStep W base t K B S (.returned (.tuple #[])) w' := by
 have hbs : base ≤ W.heap.size := by have := (H.is.ap t (.inl rfl)).2; omega
 exact ⟨rfl, B, ⟨H.is.below hb, H.ok, H.pr, H.hv⟩, fun _ h => .inl h, ⟨fun b hl _ => hb.block b hl, hb.size⟩, hb.mono hbs⟩
set_option maxRecDepth 20000 in
set_option maxHeartbeats 2000000 in
theorem step_any (H : TOk W base t K S B) (HK : WkOk K) (w : Int) (hst : S.steps ≤ 1000000) (hsz : ∀ k, (K.own k).length ≤ 1000000) :
  Calls Tryz.prog 7 #[.pointer (some ⟨t, 0, none⟩), .int .i64 w] W (TStep W base t K B (S.stepI K w)) := by
 have HD := hid (done_any H.is w)
 have HSS := hid (fun (w' : World) (hb : Below W.heap.size W w') => TStep.stays H hb)
 by_cases hd : S.doneI K w = true
 ·have hs : S.stepI K w = S := by
   unfold Sh.stepI
   by_cases h0 : w < 0
   ·rw [if_pos h0]
   ·rw [if_neg h0]
    refine step_not ?_
    unfold Sh.canN
    have : S.doneN K w.toNat = true := by
     unfold Sh.doneI at hd
     simp only [Bool.or_eq_true, decide_eq_true_eq] at hd
     rcases hd with (h | h) | h
     ·exact absurd h h0
     ·unfold Sh.doneN; rw [decide_eq_true (show K.work.length ≤ w.toNat by omega)]; rfl
     ·exact h
    rw [this]; rfl
  rw [hs]
  rw [hd] at HD
  clear hs hd H
  go_enter Tryz.func7, Tryz.ntmps7
  go_wp2_with (go_at_call 17; (with_reducible refine HD.out.mono ?_); rintro e w1 ⟨rfl, q1, rfl⟩)
  refine bodyPost_end (v := .tuple #[]) (by simp [results, Tryz.results7, go_sem]) rfl ?_
  exact HSS.out _ (below_drewN (Below.refl _ _) _)
 ·have hd : S.doneI K w = false := by simpa using hd
  obtain ⟨k, rfl⟩ : ∃ k : Nat, w = k := ⟨w.toNat, by unfold Sh.doneI at hd; simp at hd; omega⟩
  have hk : k < K.work.length := by unfold Sh.doneI at hd; simp at hd; omega
  have hdn : S.doneN K k = false := by unfold Sh.doneI at hd; simp at hd; exact hd.2
  have hsi : S.stepI K (k : Int) = S.stepN K k := by unfold Sh.stepI; rw [if_neg (by omega), Int.toNat_natCast]
  rw [hsi]
  cases hw : S.waitsN K k with
  | true =>
   have HW := hid (fun (w1 : World) (hb : Below W.heap.size W w1) => twaits_any (H.is.below hb) HK (k : Int))
   have hwf : S.waitsI K (k : Int) = true := by unfold Sh.waitsI; rw [Int.toNat_natCast, hw, hd]; rfl
   rw [hwf] at HW
   rw [hd] at HD
   rw [step_not (by unfold Sh.canN; rw [hw]; simp)]
   clear hsi hd hdn hw hwf H
   go_enter Tryz.func7, Tryz.ntmps7
   go_wp2_with (first
    | (go_at_call 17; (with_reducible refine HD.out.mono ?_); rintro e w1 ⟨rfl, q1, rfl⟩)
    | (go_at_call 23; (with_reducible refine (HW.out _ (below_drewN (Below.refl _ _) q1)).mono ?_); rintro e w2 ⟨rfl, hb2⟩; have HB2 := hid (below_more hb2 (below_drewN (Below.refl _ _) q1) (Nat.le_refl _)); clear hb2))
   refine bodyPost_end (v := .tuple #[]) (by simp [results, Tryz.results7, go_sem]) rfl ?_
   exact HSS.out _ HB2.out
  | false =>
   have hcan : S.canN K k = true := by unfold Sh.canN; rw [hw, hdn]; rfl
   have h5 : (S.hand k).at_ ≤ 5 := by
    by_cases h0 : (S.hand k).at_ = 0
    ·omega
    ·exact ((H.ok.each k hk).inh h0).2.2
   rcases (show (S.hand k).at_ = 0 ∨ (S.hand k).at_ = 1 ∨ (S.hand k).at_ = 2 ∨ (S.hand k).at_ = 3 ∨ (S.hand k).at_ = 4 ∨ (S.hand k).at_ = 5 by omega) with e | e | e | e | e | e
   ·exact step0_any H HK k hk hcan e hst (hsz k)
   ·exact step1_any H HK k hk hcan e hst (hsz k)
   ·exact step2_any H HK k hk hcan e hst (hsz k)
   ·exact step3_any H HK k hk hcan e hst (hsz k)
   ·exact step4_any H HK k hk hcan e hst (hsz k)
   ·exact step5_any H HK k hk hcan e hst (hsz k)
end Go.Proofs.YtabkmdhkfbcldaaGreat
namespace Go.Proofs.YtabkmdhkfbcldaaGreat
open Go.RowKit
theorem EAsk : Elem Tryz.prog 47 46 3 32 (.agg #[.int .i64 0, .string .empty, .int .i64 0]) := Elem.mk' Tryz.underlying47 (by kernel_rfl) rfl (by decide)
theorem EAskL : Elem Tryz.prog 22 47 1 24 (.slice none 0 0) := Elem.mk' Tryz.underlying22 (by kernel_rfl) rfl (by decide)
theorem asks_ones (l : List Ak) : ∀ u ∈ l.flatMap Ak.cells, u.oneCell' = true := fun u hu => by
 obtain ⟨c, _, h⟩ := List.mem_flatMap.1 hu
 simp [Ak.cells] at h
 rcases h with rfl | rfl | rfl <;> rfl
theorem clls_ones (l : List Cl) : ∀ u ∈ l.flatMap Cl.cells, u.oneCell' = true := fun u hu => by
 obtain ⟨c, _, h⟩ := List.mem_flatMap.1 hu
 exact cl_ones2 c u h
def CloneA (l : List Ak) (w : World) (e : Ending) (w' : World) : Prop := ∃ v, e = .returned v ∧ w'.ownsRow w.heap.size 46 3 v l.length (l.flatMap Ak.cells) ∧ Below w.heap.size w w'
set_option maxHeartbeats 1000000 in
theorem cloneA_any (p : Option Addr) (c : Nat) (l : List Ak) (w : World) (hl : l.length ≤ 1000000) (hp : p = none → c = 0) (hrow : Row w p (l.flatMap Ak.cells)) :
  Calls Tryz.prog 19 #[.slice p l.length c] w (CloneA l w) := by
 have hcl := flat_len Ak.cells 3 (fun _ => rfl) l
 cases p with
 | none =>
  have hc := hp rfl
  subst hc
  have h0 : l = [] := by
   apply Classical.byContradiction
   intro hne
   have := List.length_pos_iff.2 hne
   obtain ⟨b, o, e, _⟩ := hrow.at (by omega)
   cases e
  subst h0
  have hnil := fun (w : World) => Lib.run_eql_slice_nil (P := Tryz.prog) w 47 46 none 0 0 0 0 Tryz.underlying47
  go_enter Tryz.func19, Tryz.ntmps19
  go_wp2
  go_ret
  exact ⟨_, rfl, World.ownsRow_nil _ _ _ _, Below.refl _ _⟩
 | some a =>
  have hnil := fun (w : World) (n c : Nat) => Lib.run_eql_slice_nil (P := Tryz.prog) w 47 46 (some a) n c 0 0 Tryz.underlying47
  have HCL := hid hcl
  clear hcl
  go_enter Tryz.func19, Tryz.ntmps19
  go_wp2_with ((with_reducible show wpList _ _ _ (⟨some 7, _, _, _, _, _⟩ :: _) _ _); go_loud (refine wpList_app EAsk rfl _ _ rfl w.heap.size _ 0 [] rfl (own_new w [] 46 w.heap.size 0 3 (Nat.le_refl _) rfl (by decide)) _ _ _ (l.flatMap Ak.cells) rfl (by rw [HCL.out]; omega) hp (hrow.alloc _) (asks_ones l) (by unfold maxLen; omega) (by omega) (by simp) ?_); intro v2 w2 ho2 hg2 hs2; rw [Nat.zero_add, List.nil_append] at ho2)
  have hg2 : (w.alloc (.cells #[] 46)).grownBy w2 (some w.heap.size) := hg2
  go_ret
  exact ⟨v2, rfl, ho2, ((Below.refl _ _).alloc (Nat.le_refl _) _).grown hg2 (by simp) (by rintro k e; cases e; exact Nat.le_refl _)⟩
def CloneC (l : List Cl) (w : World) (e : Ending) (w' : World) : Prop := ∃ v, e = .returned v ∧ w'.ownsRow w.heap.size 35 8 v l.length (l.flatMap Cl.cells) ∧ Below w.heap.size w w'
set_option maxHeartbeats 1000000 in
theorem cloneC_any (p : Option Addr) (c : Nat) (l : List Cl) (w : World) (hl : l.length ≤ 1000000) (hp : p = none → c = 0) (hrow : Row w p (l.flatMap Cl.cells)) :
  Calls Tryz.prog 9 #[.slice p l.length c] w (CloneC l w) := by
 have hcl := flat_len Cl.cells 8 (fun _ => rfl) l
 cases p with
 | none =>
  have hc := hp rfl
  subst hc
  have h0 : l = [] := by
   apply Classical.byContradiction
   intro hne
   have := List.length_pos_iff.2 hne
   obtain ⟨b, o, e, _⟩ := hrow.at (by omega)
   cases e
  subst h0
  have hnil := fun (w : World) => Lib.run_eql_slice_nil (P := Tryz.prog) w 32 35 none 0 0 0 0 Tryz.underlying32
  go_enter Tryz.func9, Tryz.ntmps9
  go_wp2
  go_ret
  exact ⟨_, rfl, World.ownsRow_nil _ _ _ _, Below.refl _ _⟩
 | some a =>
  have hnil := fun (w : World) (n c : Nat) => Lib.run_eql_slice_nil (P := Tryz.prog) w 32 35 (some a) n c 0 0 Tryz.underlying32
  have HCL := hid hcl
  clear hcl
  go_enter Tryz.func9, Tryz.ntmps9
  go_wp2_with ((with_reducible show wpList _ _ _ (⟨some 7, _, _, _, _, _⟩ :: _) _ _); go_loud (refine wpList_app ECl rfl _ _ rfl w.heap.size _ 0 [] rfl (own_new w [] 35 w.heap.size 0 8 (Nat.le_refl _) rfl (by decide)) _ _ _ (l.flatMap Cl.cells) rfl (by rw [HCL.out]; omega) hp (hrow.alloc _) (clls_ones l) (by unfold maxLen; omega) (by omega) (by simp) ?_); intro v2 w2 ho2 hg2 hs2; rw [Nat.zero_add, List.nil_append] at ho2)
  have hg2 : (w.alloc (.cells #[] 35)).grownBy w2 (some w.heap.size) := hg2
  go_ret
  exact ⟨v2, rfl, ho2, ((Below.refl _ _).alloc (Nat.le_refl _) _).grown hg2 (by simp) (by rintro k e; cases e; exact Nat.le_refl _)⟩
variable {W : World} {base t : Nat} {K : Wk} {S : Sh} {B : TB}
set_option maxRecDepth 20000 in
theorem history_any (h : TabIs W base t K S B) (hlen : S.calls.length ≤ 1000000) : Calls Tryz.prog 10 #[.pointer (some ⟨t, 0, none⟩)] W (CloneC S.calls W) := by
 obtain ⟨c0, c1, c2, c3, c4, c5, c6, c7, c8⟩ := tab_cells h.head
 have hown := h.past
 obtain ⟨p, c, hv, hn, hrow⟩ : ∃ p c, B.vp = .slice p S.calls.length c ∧ (p = none → c = 0) ∧ Row W p (S.calls.flatMap Cl.cells) := by
  obtain ⟨p, c, e, hr⟩ := own_shape hown
  exact ⟨p, c, e, own_nilcap (e ▸ hown), hr⟩
 rw [hv] at c7
 have HC := hid (cloneC_any p c S.calls W hlen hn hrow)
 clear hv hown hrow h c0 c1 c2 c3 c4 c5 c6 c8
 unfold CloneC at HC ⊢
 generalize S.calls = l at *
 go_enter Tryz.func10, Tryz.ntmps10
 go_wp2_with (go_at_call 9; (with_reducible refine HC.out.mono ?_); rintro e w1 ⟨v, rfl, ho, hb⟩; have HO := hid ho; have HB := hid hb; clear ho hb)
 go_ret
 exact ⟨v, rfl, HO.out, HB.out⟩
end Go.Proofs.YtabkmdhkfbcldaaGreat
namespace Go.Proofs.YtabkmdhkfbcldaaGreat
open Go.RowKit
theorem run_copy_sz {P : Program} (w : World) (dT sT ty elem : TypeId) (g o dLen dCap : Nat) (a : Addr) (sLen sCap : Nat) (cur : Array Value) (t : TypeId) (cs : List Value) (sz : Nat)
  (hu : P.underlying dT = some (.slice elem)) (hs : (P.info? elem).map (·.size) = some sz)
  (hg : w.heap[g]? = some (.cells cur t (0, 0))) (hn : cs.length = Nat.min sLen dLen * sz)
  (hsrc : ∀ j v, cs[j]? = some v → w.cell? (a.add j) = some v) (hfit : o + cs.length ≤ cur.size) (h1 : ∀ v ∈ cs, v.oneCell' = true) :
  (Builtin.copy_ #[dT, sT] ty #[.slice (some ⟨g, o, none⟩) dLen dCap, .slice (some a) sLen sCap]).run P w =
   .ok (goInt (Nat.min sLen dLen)) (w.setRow g (cur.toList.take o ++ cs ++ cur.toList.drop (o + cs.length)).toArray) := by
 have hl := run_loadCells_list (P := P) w a cs hsrc
 have hst := run_storeCells_at P g o t cs 0 cur w hg (by simpa using hfit) h1
 cases hq : P.info? elem with
 | none => simp [hq] at hs
 | some i =>
  have hi : i.size = sz := by simpa [hq] using hs
  simp [Builtin.copy_, run_underlying hu, Builtin.lenOf, Builtin.firstCells, sizeOf, typeInfo, hq, hi, ← hn, hl, hst]
theorem wpList_copy_sz {P : Program} {w : World} {ops : Array Oper} {rest : List Oper} {o : Oper} {a : Act} {Q : Exit → Act → World → Prop} (hgd : o.guard = none) (d s : Operand) (dT sT : TypeId)
  (ho : o.op = .call { callee := .builtin .copy, args := #[d, s], argTypes := #[dT, sT] }) (elem : TypeId) (hu : P.underlying dT = some (.slice elem)) (sz : Nat) (hsz : (P.info? elem).map (·.size) = some sz)
  (g off dLen dCap : Nat) (ad : Addr) (sLen sCap : Nat) (hd : a.eval d = .slice (some ⟨g, off, none⟩) dLen dCap) (hs : a.eval s = .slice (some ad) sLen sCap)
  (cur : List Value) (t : TypeId) (hg : w.heap[g]? = some (.cells cur.toArray t (0, 0))) (n : Nat) (hmin : Nat.min sLen dLen = n) (cs : List Value) (hn : cs.length = n * sz)
  (hsrc : ∀ j v, cs[j]? = some v → w.cell? (ad.add j) = some v) (hfit : off + cs.length ≤ cur.length) (h1 : ∀ v ∈ cs, v.oneCell' = true)
  (h : ∀ w', Hid (w'.heap[g]? = some (.cells (splice cur off cs).toArray t (0, 0))) → w.grownBy w' (some g) → wpList P ops Q rest (a.put o.dst (goInt n)) w') : wpList P ops Q (o :: rest) a w := by
 refine wpList_plain hgd fun K hK => ?_
 have hrun := run_copy_sz (P := P) w dT sT o.type elem g off dLen dCap ad sLen sCap cur.toArray t cs sz hu hsz hg (by rw [hmin]; exact hn) hsrc (by simpa using hfit) h1
 rw [hmin] at hrun
 unfold Oper.wp
 simp [execOp, ho, resolve, invoke, builtin, hd, hs, hrun, Result.andThen]
 exact hK _ _ (h _ (show _ = _ by simpa [splice] using setRow_heap w g _ _ t _ hg) ⟨rfl, rfl, rfl, by simp [World.setRow], fun k hk hne => setRow_other w g k _ (fun e => hne (by rw [e]))⟩)
theorem step_copy_sz {P : Program} {ops : Array Oper} {o : Oper} {a : Act} {w : World} {K : Act → World → Prop} {Q : Exit → Act → World → Prop} {E : Prop} (hgd : o.guard = none) (d s : Operand) (dT sT : TypeId)
  (ho : o.op = .call { callee := .builtin .copy, args := #[d, s], argTypes := #[dT, sT] }) (elem : TypeId) (hu : P.underlying dT = some (.slice elem)) (sz : Nat) (hsz : (P.info? elem).map (·.size) = some sz)
  (g off dLen dCap : Nat) (ad : Addr) (sLen sCap : Nat) (hd : a.eval d = .slice (some ⟨g, off, none⟩) dLen dCap) (hs : a.eval s = .slice (some ad) sLen sCap)
  (cur : List Value) (t : TypeId) (hg : w.heap[g]? = some (.cells cur.toArray t (0, 0))) (n : Nat) (hmin : Nat.min sLen dLen = n) (cs : List Value) (hn : cs.length = n * sz)
  (hsrc : ∀ j v, cs[j]? = some v → w.cell? (ad.add j) = some v) (hfit : off + cs.length ≤ cur.length) (h1 : ∀ v ∈ cs, v.oneCell' = true)
  (h : ∀ w', Hid (w'.heap[g]? = some (.cells (splice cur off cs).toArray t (0, 0))) → w.grownBy w' (some g) → K (a.put o.dst (goInt n)) w') :
  if Region.wanted o (yielded ops a.tmps) = true then Oper.wp P o a w K Q else E := by
 have hw : Region.wanted o (yielded ops a.tmps) = true := by simp [Region.wanted, hgd]
 rw [if_pos hw]
 have hrun := run_copy_sz (P := P) w dT sT o.type elem g off dLen dCap ad sLen sCap cur.toArray t cs sz hu hsz hg (by rw [hmin]; exact hn) hsrc (by simpa using hfit) h1
 rw [hmin] at hrun
 unfold Oper.wp
 simp [execOp, ho, resolve, invoke, builtin, hd, hs, hrun, Result.andThen]
 exact h _ (show _ = _ by simpa [splice] using setRow_heap w g _ _ t _ hg) ⟨rfl, rfl, rfl, by simp [World.setRow], fun k hk hne => setRow_other w g k _ (fun e => hne (by rw [e]))⟩
end Go.Proofs.YtabkmdhkfbcldaaGreat
namespace Go.Proofs.YtabkmdhkfbcldaaGreat
open Go.RowKit
variable {w w' : World}
def repR (a z : List Value) (n k : Nat) : List Value := (List.replicate k a).flatten ++ (List.replicate (n - k) z).flatten
theorem reps_len (a : List Value) (k : Nat) : (List.replicate k a).flatten.length = k * a.length := by simp
theorem repR_len {a z : List Value} {s : Nat} (ha : a.length = s) (hz : z.length = s) (n k : Nat) (h : k ≤ n) : (repR a z n k).length = n * s := by
 unfold repR
 rw [List.length_append, reps_len, reps_len, ha, hz, ← Nat.add_mul]
 congr 1; omega
theorem repR_splice {a z : List Value} {s : Nat} (ha : a.length = s) (hz : z.length = s) (n k m : Nat) (h : k + m ≤ n) : splice (repR a z n k) (k * s) (List.replicate m a).flatten = repR a z n (k + m) := by
 unfold splice repR
 have e1 : (List.replicate k a).flatten.length = k * s := by rw [reps_len, ha]
 have e2 : (List.replicate m a).flatten.length = m * s := by rw [reps_len, ha]
 have e3 : (List.replicate m z).flatten.length = m * s := by rw [reps_len, hz]
 have hzz : List.replicate (n - k) z = List.replicate m z ++ List.replicate (n - (k + m)) z := by
  rw [List.replicate_append_replicate]; congr 1; omega
 have hr : List.replicate (k + m) a = List.replicate k a ++ List.replicate m a := by rw [List.replicate_append_replicate]
 rw [hzz, hr]
 simp only [List.flatten_append]
 rw [List.take_left' e1, e2, ← List.drop_drop, List.drop_left' e1, List.drop_left' e3, List.append_assoc]
theorem rep_pre (a : List Value) (m k : Nat) (h : m ≤ k) (j : Nat) (v : Value) (hj : (List.replicate m a).flatten[j]? = some v) : (List.replicate k a).flatten[j]? = some v := by
 have : List.replicate k a = List.replicate m a ++ List.replicate (k - m) a := by rw [List.replicate_append_replicate]; congr 1; omega
 rw [this, List.flatten_append, List.getElem?_append_left (List.getElem?_eq_some_iff.1 hj).1]
 exact hj
theorem repR_cells (a z : List Value) (n k j : Nat) (v : Value) (hj : (List.replicate k a).flatten[j]? = some v) : (repR a z n k)[j]? = some v := by
 unfold repR
 rw [List.getElem?_append_left (List.getElem?_eq_some_iff.1 hj).1]
 exact hj
theorem rep_one {a : List Value} (ha : ∀ u ∈ a, u.oneCell' = true) (m : Nat) : ∀ u ∈ (List.replicate m a).flatten, u.oneCell' = true := by
 intro u hu
 obtain ⟨l, hl, h⟩ := List.mem_flatten.1 hu
 rw [(List.mem_replicate.1 hl).2] at h
 exact ha u h
theorem made_rep (a z : List Value) (s : Nat) (hz : z.length = s) (hs : 0 < s) (n : Nat) : (madeCells z.toArray (n * s)).toList = repR a z n 0 := by
 unfold repR
 rw [List.replicate_zero, List.flatten_nil, List.nil_append, Nat.sub_zero]
 apply List.ext_getElem?
 intro j
 by_cases hj : j < n * s
 ·have e1 : (madeCells z.toArray (n * s)).toList[j]? = some (z.toArray[j % z.toArray.size]!) := by
   simp [madeCells, hj]
  have hq : j / s < n := Nat.div_lt_of_lt_mul (by rw [Nat.mul_comm]; exact hj)
  have hf := flat_get (fun _ : Unit => z) s (fun _ => hz) (List.replicate n ()) (j / s) (by simpa using hq) (j % s) (Nat.mod_lt _ hs)
  rw [Nat.div_add_mod] at hf
  have e2 : (List.replicate n z).flatten = (List.replicate n ()).flatMap (fun _ => z) := by
   rw [List.flatMap_def, List.map_replicate]
  rw [e1, e2, hf]
  simp [hz, Nat.mod_lt _ hs]
 ·rw [List.getElem?_eq_none (by simp [size_madeCells]; omega), List.getElem?_eq_none (by rw [reps_len, hz]; omega)]
theorem src_row {g : Nat} {L cs : List Value} {t : TypeId} (hg : w.heap[g]? = some (.cells L.toArray t (0, 0))) (hp : ∀ (j : Nat) (v : Value), cs[j]? = some v → L[j]? = some v) : ∀ (j : Nat) (v : Value), cs[j]? = some v → w.cell? ((⟨g, 0, none⟩ : Addr).add j) = some v := by
 intro j v hj
 rw [addr_add, Nat.zero_add, cell_of_row w g j _ _ _ hg]
 simpa using hp j v hj
theorem own_full {base : Nat} {e : TypeId} {size n g : Nat} {xs : List Value} (h : w.ownsRow base e size (.slice (some ⟨g, 0, none⟩) n n) n xs) : w.heap[g]? = some (.cells xs.toArray e (0, 0)) ∧ base ≤ g := by
 rcases h.2 with ⟨hv, _⟩ | ⟨g', cap, cur, hv, hge, hg, _, _, hsz, htk⟩
 ·cases hv
 ·cases hv
  refine ⟨?_, hge⟩
  rw [List.take_of_length_le (by simp [hsz])] at htk
  rw [hg, ← htk]
def zcL : List Value := [i64 0, i64 0, i64 0, i64 0, .slice none 0 0, i64 0, .bool false]
set_option maxRecDepth 100000 in
set_option maxHeartbeats 1000000 in
theorem repeatC_any (a : List Value) (ha : a.length = 7) (ha1 : ∀ u ∈ a, u.oneCell' = true) (n : Nat) (hn : n ≤ 100000) (xb : Nat) (hx : w.heap[xb]? = some (.cells a.toArray 61 (0, 0))) :
  Calls Tryz.prog 22 #[.slice (some ⟨xb, 0, none⟩) 1 1, .int .i64 n] w fun e w' => ∃ g, e = .returned (.slice (some ⟨g, 0, none⟩) n n) ∧ w'.heap[g]? = some (.cells (repR a zcL n n).toArray 61 (0, 0)) ∧ w.heap.size ≤ g ∧ Below w.heap.size w w' := by
 have hxl := (Array.getElem?_eq_some_iff.1 hx).1
 have hzl : zcL.length = 7 := rfl
 have hmul := hid (Tryz.bits_Mul 1 n (by omega) (by omega))
 have e1 : (1 * n / 18446744073709551616 : Nat) = 0 := by omega
 have e2 : (1 * n % 18446744073709551616 : Nat) = n := by omega
 rw [e1, e2] at hmul
 clear e1 e2
 have HM0 : Hid ((madeCells (Value.agg #[i64 0, i64 0, i64 0, i64 0, .slice none 0 0, i64 0, .bool false]).cells (n * 7)).toList = repR a zcL n 0) := made_rep a zcL 7 rfl (by omega) n
 have HLN := hid (fun k (h : k ≤ n) => repR_len (z := zcL) ha hzl n k h)
 have HRL := hid (fun m => (reps_len a m).trans (by rw [ha]))
 have HSP := hid (fun k m h => repR_splice (z := zcL) ha hzl n k m h)
 have HA1 := hid ha1
 have hxx : w.heap[xb]? = some (.cells (List.replicate 1 a).flatten.toArray 61 (0, 0)) := by simpa using hx
 have HXX := hid hxx
 clear hx ha ha1 hzl hxx
 generalize zcL = z at *
 go_enter Tryz.func22, Tryz.ntmps22
 go_wp2_with (first
  | (go_at_call 39; refine (hmul.out _).mono ?_; rintro e w2 ⟨rfl, hw2⟩; rw [hw2]; clear hw2)
  | ((with_reducible show wpList _ _ _ (⟨some 30, _, _, _, _, _⟩ :: _) _ _); go_loud (refine wpList_mkfull ECell rfl _ _ rfl w.heap.size .i64 .i64 _ _ n rfl rfl rfl rfl (by omega) (by unfold maxLen; omega) (Nat.le_refl _) ?_); intro w2 ho2 hg2; rw [HM0.out] at ho2; obtain ⟨hg0, _⟩ := own_full ho2; have hx2 := (hg2.block xb hxl (by simp)).trans HXX.out; have HG0 := hid hg0; clear hg0 ho2)
  | ((with_reducible show wpList _ _ _ (⟨some 33, _, _, _, _, _⟩ :: _) _ _); go_loud (refine wpList_copy_sz rfl _ _ _ _ rfl 61 Tryz.underlying66 7 (by kernel_rfl) w.heap.size 0 n n ⟨xb, 0, none⟩ 1 1 rfl rfl (repR a z n 0) 61 HG0.out (min 1 n) rfl (List.replicate (min 1 n) a).flatten (HRL.out _) (src_row hx2 (rep_pre a _ 1 (by omega))) (by rw [HRL.out, HLN.out 0 (by omega)]; omega) (rep_one HA1.out _) ?_); intro w3 hg3 hg4))
 have hb3 : Below w.heap.size w w3 := ((Below.refl _ _).grown hg2 (Nat.le_refl _) (by simp)).grown hg4 hg2.size (by intro k e; cases e; exact Nat.le_refl _)
 have HG3 : Hid (w3.heap[w.heap.size]? = some (.cells (repR a z n (min 1 n)).toArray 61 (0, 0))) := by
  have h := hg3.out
  have e := HSP.out 0 (min 1 n) (by omega)
  rw [Nat.zero_mul] at e
  rw [e, Nat.zero_add] at h
  exact h
 clear hg3 hg4 HG0 hg2 hx2 hmul HM0
 go_loopw [8] (fun i wr => ∃ k : Nat, k ≤ n ∧ (k = 0 → n = 0) ∧ i = .int .i64 k ∧ Hid (wr.heap[w.heap.size]? = some (.cells (repR a z n k).toArray 61 (0, 0))) ∧ Below w.heap.size w wr) (fun i _ => n - (intOf i).toNat)
 case atStart => exact ⟨min 1 n, by omega, by omega, rfl, HG3, hb3⟩
 case round =>
  obtain ⟨k, hk, hk0, rfl, HG, hbl⟩ := hrel
  have hsz := hbl.size
  by_cases hlt : k < n
  ·obtain ⟨m, hm⟩ : ∃ m, Nat.min k (n - k) = m := ⟨_, rfl⟩
   have hmk : m ≤ k := by rw [← hm]; exact Nat.min_le_left _ _
   have hmn : k + m ≤ n := by
    have : m ≤ n - k := by rw [← hm]; exact Nat.min_le_right _ _
    omega
   have hnk : ¬ n = k := by omega
   have hm1 : 1 ≤ m := by
    have : m = k ∨ m = n - k := by rw [← hm]; rcases Nat.le_total k (n - k) with h | h; exact .inl (Nat.min_eq_left h); exact .inr (Nat.min_eq_right h)
    omega
   have HM := hid hm
   have hkI : (k : Int) ≤ n := by omega
   have HGD : Hid (wr.drew.heap[w.heap.size]? = some (.cells (repR a z n k).toArray 61 (0, 0))) := HG.out
   have HSRC := hid (src_row HGD.out (fun j v hj => repR_cells a z n k j v (rep_pre a m k hmk j v hj)))
   have hwr : IntKind.i64.wrap ((k : Int) + (m : Int)) = (k : Int) + (m : Int) := IntWalk.i64_in _ (by omega)
   clear hm
   go_upto_region 9 with (fail)
   go_region_held3 (fun _ => True) (trivial) (first | (go_loud (refine step_copy_sz rfl (.tmp 41) (.tmp 44) 66 66 rfl 61 Tryz.underlying66 7 (by kernel_rfl) w.heap.size (k * 7) (n - k) _ ⟨w.heap.size, 0, none⟩ k _ rfl rfl (repR a z n k) 61 HGD.out m HM.out (List.replicate m a).flatten (HRL.out _) HSRC.out (by rw [HRL.out, HLN.out k (by omega)]; omega) (rep_one HA1.out _) ?_); intro w4 hg4 hb4))
   have HG4 : Hid (w4.heap[w.heap.size]? = some (.cells (repR a z n (k + m)).toArray 61 (0, 0))) := by
    have h := hg4.out
    rw [HSP.out k m hmn] at h
    exact h
   clear hg4
   go_wp2
   go_roundw
   case rel => exact ⟨k + m, hmn, by omega, by go_num, HG4, hbl.drew.grown hb4 hsz (by intro q e; cases e; exact Nat.le_refl _)⟩
   case measure => simp [intOf]; omega
  ·obtain rfl : k = n := by omega
   go_wp2
   go_ret
   exact ⟨_, rfl, HG.out, Nat.le_refl _, hbl⟩
end Go.Proofs.YtabkmdhkfbcldaaGreat
namespace Go.Proofs.YtabkmdhkfbcldaaGreat
open Go.RowKit
variable {w w' : World}
abbrev AkR := Option Addr × Nat × List Ak
def akS (z : AkR) : Value := .slice z.1 z.2.2.length z.2.1
def akBad (a : Ak) : Bool := decide (a.kind < 1) || decide (3 < a.kind) || (decide (a.kind ≠ 1) && decide (a.value ≠ 0))
def totA (l : List (List Ak)) : Nat := (l.map List.length).sum
def newTE (shards : Int) (l : List (List Ak)) : Int :=
 if shards < 1 ∨ 256 < shards ∨ l.length < 1 ∨ 64 < l.length then 1 else if 1024 < totA l then 3 else if l.any (·.any akBad) then 270 else 0
theorem totA_succ (l : List (List Ak)) (k : Nat) (hk : k < l.length) : totA (l.take (k + 1)) = totA (l.take k) + l[k].length := by
 unfold totA
 rw [List.take_add_one, List.getElem?_eq_getElem hk, Option.toList_some, List.map_append, List.sum_append]
 simp
theorem totA_take (l : List (List Ak)) (k : Nat) : totA (l.take k) ≤ totA l := by
 have h : totA l = totA (l.take k) + totA (l.drop k) := by
  unfold totA
  rw [← List.sum_append, ← List.map_append, List.take_append_drop]
 omega
theorem totA_mem (l : List (List Ak)) (x : List Ak) (h : x ∈ l) : x.length ≤ totA l := by
 unfold totA
 induction l with
 | nil => cases h
 | cons y r ih =>
  rw [List.map_cons, List.sum_cons]
  rcases List.mem_cons.1 h with rfl | h
  ·omega
  ·have := ih h; omega
structure AskIs (w : World) (wp : Option Addr) (wc : Nat) (zs : List AkR) : Prop where
 row : Row w wp (zs.map akS)
 c : zs.length ≤ wc ∧ wc ≤ maxLen
 each : ∀ z ∈ zs, (z.1 = none → z.2.1 = 0) ∧ Row w z.1 (z.2.2.flatMap Ak.cells) ∧ z.2.2.length ≤ z.2.1 ∧ z.2.1 ≤ maxLen
theorem AskIs.below {wp : Option Addr} {wc : Nat} {zs : List AkR} (h : AskIs w wp wc zs) (hb : Below w.heap.size w w') : AskIs w' wp wc zs :=
 ⟨h.row.below hb, h.c, fun z hz => ⟨(h.each z hz).1, (h.each z hz).2.1.below hb, (h.each z hz).2.2⟩⟩
def NewTT (w : World) (shards : Int) (K : Wk) (er : Int) (e : Ending) (w' : World) : Prop :=
 (er ≠ 0 ∧ e = .returned (.tuple #[.pointer none, .int .i64 er]) ∧ Below w.heap.size w w') ∨
 (er = 0 ∧ ∃ t B, e = .returned (.tuple #[.pointer (some ⟨t, 0, none⟩), .int .i64 0]) ∧ TabIs w' w.heap.size t K (Sh.start K) B ∧ (∀ k, B.pr k = false) ∧ (∀ b, B.fp K t b → w.heap.size ≤ b) ∧ Below w.heap.size w w')
set_option maxRecDepth 20000 in
theorem newT_arg (wp : Option Addr) (wc : Nat) (zs : List AkR) (w : World) (hA : AskIs w wp wc zs) (n : Int) (K : Wk) (h : n < 1 ∨ 256 < n ∨ zs.length < 1 ∨ 64 < zs.length) :
  Calls Tryz.prog 6 #[.int .i64 n, .slice wp zs.length wc] w (NewTT w n K 1) := by
 have hE : Hid ((1 : Int) ≠ 0) := by unfold Hid; omega
 clear hA
 generalize zs.length = q at *
 by_cases h1 : n < 1
 ·go_enter Tryz.func6, Tryz.ntmps6
  go_wp2
  go_ret2
  exact .inl ⟨hE.out, rfl, Below.refl _ _⟩
 ·by_cases h2 : 256 < n
  ·go_enter Tryz.func6, Tryz.ntmps6
   go_wp2
   go_ret2
   exact .inl ⟨hE.out, rfl, Below.refl _ _⟩
  ·by_cases h3 : q < 1
   ·have h3I : (q : Int) < 1 := by omega
    go_enter Tryz.func6, Tryz.ntmps6
    go_wp2
    go_ret2
    exact .inl ⟨hE.out, rfl, Below.refl _ _⟩
   ·have h4 : 64 < q := by omega
    have h4I : (64 : Int) < q := by omega
    have h3I : ¬ (q : Int) < 1 := by omega
    go_enter Tryz.func6, Tryz.ntmps6
    go_wp2
    go_ret2
    exact .inl ⟨hE.out, rfl, Below.refl _ _⟩
end Go.Proofs.YtabkmdhkfbcldaaGreat
namespace Go.Proofs.YtabkmdhkfbcldaaGreat
open Go.RowKit
variable {w w' wr : World}
def lists (zs : List AkR) : List (List Ak) := zs.map (fun z => z.2.2)
structure NW (w : World) (n : Int) (zs : List AkR) (q k : Nat) (vw : Value) (ws : List (Option Addr × Nat)) (wr : World) : Prop where
 head : wr.heap[q + 3]? = some (.cells #[.pointer none, .int .i64 n, vw, .slice (some ⟨w.heap.size, 0, none⟩) zs.length zs.length, .map (some q), .map (some (q + 1)), .map (some (q + 2)), .slice none 0 0, .int .i64 0] 58 (0, 0))
 work : wr.ownsRow w.heap.size 47 1 vw k (List.zipWith wkV ((lists zs).take k) ws)
 wsl : ws.length = k
 asks : ∀ i, i < k → wr.ownsRow w.heap.size 46 3 (.slice (ws.getD i (none, 0)).1 ((lists zs).getD i []).length (ws.getD i (none, 0)).2) ((lists zs).getD i []).length (((lists zs).getD i []).flatMap Ak.cells)
 ats : wr.ownsRow w.heap.size 3 1 (.slice (some ⟨w.heap.size, 0, none⟩) zs.length zs.length) zs.length (List.replicate zs.length (.int .i64 0))
 m1 : MapIs (Value.int .i64) (id : Value → Value) wr q []
 m2 : MapIs Value.string (Value.int .i64) wr (q + 1) []
 m3 : MapIs Value.string Value.bool wr (q + 2) []
 ok : ∀ l ∈ (lists zs).take k, l.any akBad = false
 b : Below w.heap.size w wr
 sz : w.heap.size ≤ q
theorem NW.below {n : Int} {zs : List AkR} {q k : Nat} {vw : Value} {ws : List (Option Addr × Nat)} (h : NW w n zs q k vw ws wr) (hb : Below wr.heap.size wr w') : NW w n zs q k vw ws w' :=
 ⟨(hb.block _ (Array.getElem?_eq_some_iff.1 h.head).1).trans h.head, own_below h.work hb, h.wsl, fun i hi => own_below (h.asks i hi) hb, own_below h.ats hb, h.m1.below hb h.m1.lt, h.m2.below hb h.m2.lt, h.m3.below hb h.m3.lt, h.ok, h.b.trans (hb.mono h.b.size), h.sz⟩
theorem NW.tagW {n : Int} {zs : List AkR} {q k : Nat} {vw : Value} {ws : List (Option Addr × Nat)} (h : NW w n zs q k vw ws wr) : tagAt wr (q + 3) = some (58 + 1) := by unfold tagAt; rw [h.head]; rfl
theorem NW.push {n : Int} {zs : List AkR} {q k : Nat} {vw : Value} {ws : List (Option Addr × Nat)} (h : NW w n zs q k vw ws wr) (hk : k < zs.length) (hok : zs[k].2.2.any akBad = false)
  {w3 w8 : World} (hb3 : Below wr.heap.size wr w3) (p : Option Addr) (c : Nat) (ho3 : w3.ownsRow wr.heap.size 46 3 (.slice p zs[k].2.2.length c) zs[k].2.2.length (zs[k].2.2.flatMap Ak.cells)) {o : Obj} {v' : Value}
  (ho8 : w8.ownsRow w.heap.size 47 1 v' (k + 1) (List.zipWith wkV ((lists zs).take k) ws ++ [.slice p zs[k].2.2.length c])) (hg8 : (w3.alloc o).grownBy w8 vw.ownBlock) :
  NW w n zs q (k + 1) v' (ws ++ [(p, c)]) (w8.setCell ⟨q + 3, 2, none⟩ v') := by
 have hl : (lists zs).length = zs.length := by simp [lists]
 have hlk : (lists zs).take (k + 1) = (lists zs).take k ++ [zs[k].2.2] := by
  rw [List.take_add_one, List.getElem?_eq_getElem (by rw [hl]; exact hk)]; simp [lists]
 have h3 := h.below hb3
 have hz3 := hb3.size
 have k8 : ∀ b, b < w3.heap.size → vw.ownBlock ≠ some b → w8.heap[b]? = w3.heap[b]? := fun b hlb hne => (hg8.block b (by simp; omega) (fun e => hne e.symm)).trans (Below.heap_alloc w3 o b hlb)
 have hne : ∀ b x, tagAt w3 b = some x → x ≠ 47 + 1 → vw.ownBlock ≠ some b := fun b x hx hn e => tag_ne (own_tag h3.work e) hx (Ne.symm hn) rfl
 have hhead : w8.heap[q + 3]? = w3.heap[q + 3]? := k8 _ (Array.getElem?_eq_some_iff.1 h3.head).1 (hne _ _ h3.tagW (by decide))
 have hv3 : ∀ g, v'.ownBlock = some g → g ≠ q + 3 := fun g hg => tag_ne (own_tag ho8 hg) (by unfold tagAt; rw [hhead, h3.head]; rfl) (show 47 + 1 ≠ 58 + 1 by decide)
 have own9 : ∀ {e : TypeId} {size m : Nat} {v : Value} {xs : List Value}, w3.ownsRow w.heap.size e size v m xs → e ≠ 47 → e ≠ 58 → (w8.setCell ⟨q + 3, 2, none⟩ v').ownsRow w.heap.size e size v m xs := fun ho n1 n2 =>
  own_setO (own_blk ho (fun g hg => k8 g (own_lt ho g hg) (hne g _ (own_tag ho hg) (fun h => n1 (Nat.succ.inj h))))) _ _ (fun g hg => tag_ne (own_tag ho hg) h3.tagW (fun h => n2 (Nat.succ.inj h)))
 have map9 : ∀ {κ β : Type} {mk : κ → Value} {mv : β → Value} {b : Nat} {m : List (κ × β)}, MapIs mk mv w3 b m → MapIs mk mv (w8.setCell ⟨q + 3, 2, none⟩ v') b m := fun hM => by
  have hlt := hM.lt
  have ht := map_tag hM
  obtain ⟨es, c, he, F⟩ := hM
  refine ⟨es, c, ?_, F⟩
  rw [heap_setCell_other _ _ _ _ (by have := tag_ne ht h3.tagW (by decide); exact this), k8 _ hlt (hne _ _ ht (by decide))]
  exact he
 refine ⟨heap_setCell_same _ _ 2 _ _ _ (hhead.trans h3.head), ?_, by simp [h.wsl], ?_, own9 h3.ats (by decide) (by decide), map9 h3.m1, map9 h3.m2, map9 h3.m3, ?_, ?_, h.sz⟩
 ·have e : List.zipWith wkV ((lists zs).take (k + 1)) (ws ++ [(p, c)]) = List.zipWith wkV ((lists zs).take k) ws ++ [.slice p zs[k].2.2.length c] := by
   rw [hlk, List.zipWith_append (by simp [h.wsl, hl]; omega)]; rfl
  rw [e]
  exact own_setO ho8 _ _ hv3
 ·intro i hi
  by_cases e : i = k
  ·subst e
   have e1 : (ws ++ [(p, c)]).getD i (none, 0) = (p, c) := by simp [List.getD_eq_getElem?_getD, h.wsl]
   have e2 : (lists zs).getD i [] = zs[i].2.2 := by simp [lists, List.getD_eq_getElem?_getD, hk]
   rw [e1, e2]
   exact own9 (own_lower ho3 h.b.size) (by decide) (by decide)
  ·have e1 : (ws ++ [(p, c)]).getD i (none, 0) = ws.getD i (none, 0) := by
    simp only [List.getD_eq_getElem?_getD]
    rw [List.getElem?_append_left (by rw [h.wsl]; omega)]
   rw [e1]
   exact own9 (h3.asks i (by omega)) (by decide) (by decide)
 ·intro l hlm
  rw [hlk] at hlm
  rcases List.mem_append.1 hlm with hlm | hlm
  ·exact h.ok l hlm
  ·simp at hlm; subst hlm; exact hok
 ·have h1 : Below w.heap.size w (w3.alloc o) := h3.b.alloc h3.b.size _
  exact (h1.grown hg8 (by have := h3.b.size; simp; omega) (fun x e => own_ge h3.work x e)).setCell (by have := h.sz; show w.heap.size ≤ q + 3; omega) _
theorem MMach.lower {W : World} {base base' d : Nat} {hd : Value → Int → Obj} {M : Mem} {fp : Nat → Prop} (h : MMach W base d hd M fp) (hb : base' ≤ base) : MMach W base' d hd M fp := by
 obtain ⟨v, ys, H⟩ := h
 exact ⟨v, ys, ⟨H.cs, H.ok, H.head, own_lower H.own hb, H.sl, H.fd, H.fv, H.fs, H.nd, H.ap, H.lt, Nat.le_trans hb H.bd⟩⟩
def newB (d q len : Nat) (base : Nat) (vw : Value) (ws : List (Option Addr × Nat)) (lm : Mem) (fm : Nat → Prop) : TB :=
 ⟨d, q, q + 1, q + 2, vw, .slice (some ⟨base, 0, none⟩) len len, .slice none 0 0, ws, fun _ => false, fun _ => 0, fun _ => 0, [], [], [], lm, fm⟩
theorem getD_rep {α : Type} (n i : Nat) (x : α) : (List.replicate n x).getD i x = x := by
 rw [List.getD_eq_getElem?_getD, List.getElem?_replicate]
 split <;> rfl
theorem NW.done {n : Int} {zs : List AkR} {q : Nat} {vw : Value} {ws : List (Option Addr × Nat)} (h : NW w n zs q zs.length vw ws wr) (K : Wk) (hKw : K.work = lists zs) (hKs : (K.shards : Int) = n)
  {wM wL : World} {d : Nat} {fp : Nat → Prop} (hbM : Below wr.heap.size wr wM) (hbL : Below wM.heap.size wM wL) (hm : MMach wL wM.heap.size d hdM ⟨(List.replicate K.shards (-1)).map lockCe, 0⟩ fp) (hfp : ∀ k, fp k → wM.heap.size ≤ k) :
  NewTT w n K 0 (.returned (.tuple #[.pointer (some ⟨q + 3, 0, none⟩), .int .i64 0])) (wL.setCell ⟨q + 3, 0, none⟩ (.pointer (some ⟨d, 0, none⟩))) := by
 have hbrL : Below wr.heap.size wr wL := hbM.trans (hbL.mono hbM.size)
 have hL := h.below hbrL
 have hzl : K.work.length = zs.length := by rw [hKw]; simp [lists]
 have ltM : ∀ b, b < wr.heap.size → ¬ fp b := fun b hb hf => by have := hfp b hf; have := hbM.size; omega
 have own9 : ∀ {e : TypeId} {size m : Nat} {v : Value} {xs : List Value}, wL.ownsRow w.heap.size e size v m xs → e ≠ 58 → (wL.setCell ⟨q + 3, 0, none⟩ (.pointer (some ⟨d, 0, none⟩))).ownsRow w.heap.size e size v m xs := fun ho n2 =>
  own_setO ho _ _ (fun g hg => tag_ne (own_tag ho hg) hL.tagW (fun h => n2 (Nat.succ.inj h)))
 have map9 : ∀ {κ β : Type} {mk : κ → Value} {mv : β → Value} {b : Nat} {m : List (κ × β)}, MapIs mk mv wL b m → MapIs mk mv (wL.setCell ⟨q + 3, 0, none⟩ (.pointer (some ⟨d, 0, none⟩))) b m := fun hM => by
  have ht := map_tag hM
  obtain ⟨es, c, he, F⟩ := hM
  exact ⟨es, c, (heap_setCell_other _ _ _ _ (tag_ne ht hL.tagW (by decide))).trans he, F⟩
 have hqr : q + 3 < wr.heap.size := (Array.getElem?_eq_some_iff.1 h.head).1
 have hmine : ∀ b, (newB d q zs.length w.heap.size vw ws ⟨(List.replicate K.shards (-1)).map lockCe, 0⟩ fp).mine K (q + 3) b → w.heap.size ≤ b ∧ b < wr.heap.size := fun b hb => by
  have hq := h.sz
  rcases hb with e | e | e | e | e | e | e | ⟨i, hi, e⟩ | ⟨i, hi, e⟩
  ·subst e; exact ⟨by omega, hqr⟩
  ·have e : b = q := e
   subst e; exact ⟨hq, by omega⟩
  ·have e : b = q + 1 := e
   subst e; exact ⟨by omega, by omega⟩
  ·have e : b = q + 2 := e
   subst e; exact ⟨by omega, by omega⟩
  ·exact ⟨own_ge h.work b e, own_lt h.work b e⟩
  ·exact ⟨own_ge h.ats b e, own_lt h.ats b e⟩
  ·cases e
  ·have ha := h.asks i (by omega)
   have e : (Value.slice (ws.getD i (none, 0)).1 (K.own i).length (ws.getD i (none, 0)).2).ownBlock = some b := e
   unfold Wk.own at e
   rw [hKw] at e
   exact ⟨own_ge ha b e, own_lt ha b e⟩
  ·cases hi
 refine .inr ⟨rfl, q + 3, newB d q zs.length w.heap.size vw ws ⟨(List.replicate K.shards (-1)).map lockCe, 0⟩ fp, rfl, ?_, fun _ => rfl, fun b hb => ?_, ?_⟩
 ·refine ⟨?_, ?_, rfl, ?_, ?_, ?_, map9 hL.m1, fun i _ => ⟨rfl, ?_⟩, fun i hi => (by cases hi), map9 hL.m2, fun _ => rfl, map9 hL.m3, fun _ => rfl, World.ownsRow_nil _ _ _ _, by show ws.length = _; rw [h.wsl, hzl], by simp [Sh.start], by simp [Sh.start], by simp [Sh.start], ⟨by show q ≠ q + 1; omega, by show q ≠ q + 2; omega, by show q + 1 ≠ q + 2; omega⟩, fun i _ hi => (by cases hi), fun b hb => ?_, fun i hi => ?_, List.nodup_nil⟩
  ·have e := heap_setCell_same wL (q + 3) 0 _ _ (.pointer (some ⟨d, 0, none⟩)) hL.head
   rw [← hKs] at e
   exact e
  ·refine (hm.lower (by have h1 := h.b.size; have h2 := hbM.size; omega)).kept (fun k hk => heap_setCell_other _ _ _ _ (fun e => ltM (q + 3) hqr ?_)) (by simp)
   have e : k = q + 3 := e
   exact e ▸ hk
  ·show (wL.setCell _ _).ownsRow _ _ 1 vw K.work.length (List.zipWith wkV K.work ws)
   have := own9 hL.work (by decide)
   rw [hzl, hKw]
   rwa [List.take_of_length_le (by simp [lists])] at this
  ·intro i hi
   have := own9 (hL.asks i (by omega)) (by decide)
   show (wL.setCell _ _).ownsRow _ _ 3 (.slice (ws.getD i (none, 0)).1 (K.own i).length (ws.getD i (none, 0)).2) (K.own i).length ((K.own i).flatMap Ak.cells)
   unfold Wk.own
   rw [hKw]
   exact this
  ·have := own9 hL.ats (by decide)
   show (wL.setCell _ _).ownsRow _ _ 1 (.slice (some ⟨w.heap.size, 0, none⟩) zs.length zs.length) (List.replicate K.work.length 0).length ((List.replicate K.work.length 0).map natV)
   rw [List.length_replicate, List.map_replicate, hzl]
   exact this
  ·show ((List.replicate K.work.length hn0).getD i hn0).at_ = 0
   rw [getD_rep]; rfl
  ·obtain ⟨a1, a2⟩ := hmine b hb
   refine ⟨ltM b a2, a1, ?_⟩
   have := hbrL.size
   simp; omega
  ·show (List.replicate K.work.length 0).getD i 0 ≤ _
   rw [getD_rep]; omega
 ·rcases hb with hb | hb
  ·exact (hmine b hb).1
  ·have h1 := hfp b hb
   have h2 := h.b.size
   have h3 := hbM.size
   omega
 ·exact hL.b.setCell (by have := h.sz; show w.heap.size ≤ q + 3; omega) _
end Go.Proofs.YtabkmdhkfbcldaaGreat
