/-
  The walk of ObjectChecks.
-/
import Derived.Test.YteccpmmedpkddaaBegun
import Derived.Test.YteccpmmedpkddaaOpenO
namespace Go.Proofs.Yteccpmmedpkddaa
open Go.RowKit

set_option maxRecDepth 20000 in
set_option maxHeartbeats 4000000 in
theorem checks_walk (w : World) (o : Ob) (ho : o.ok w) (s : ByteArray) (hs : s.size ≤ 140737488351232) (k : Int) (hk : (Lit.int .i64 k).wf = true) :
    Calls Try.prog 3 #[.agg o.cells.toArray, .string s, .int .i64 k] w fun e w' => e = .returned (.bool true) ∧ Below w.heap.size w w' := by
  have HB := hid (fun w => begun_any w)
  have HK := hid (fun w => kind_any s w)
  have HRK := hid (fun w => rkind_any s w)
  have HW := hid (fun w => width_any k w)
  have HRW := hid (fun w => rwidth_any k w)
  have hbx : Below w.heap.size w (w.alloc (.cells o.cells.toArray 25)) := (Below.refl _ _).alloc (Nat.le_refl _) _
  obtain ⟨wd, hwd⟩ : ∃ wd, wd = w.alloc (.cells o.cells.toArray 25) := ⟨_, rfl⟩
  have hblk : wd.heap[w.heap.size]? = some (.cells o.cells.toArray 25 (0, 0)) := by rw [hwd]; exact heap_alloc_new w _
  rw [← hwd] at hbx
  have hall : ∀ w', Below wd.heap.size wd w' → w'.heap[w.heap.size]? = _ := fun w' hb => (hb.block _ (Array.getElem?_eq_some_iff.1 hblk).1).trans hblk
  have g0 : ∀ w', Below wd.heap.size wd w' → _ := fun w' hb => cell_of_row w' _ 0 _ _ _ (hall w' hb)
  have g1 : ∀ w', Below wd.heap.size wd w' → _ := fun w' hb => cell_of_row w' _ 1 _ _ _ (hall w' hb)
  have HF := hid (fun w1 (hb : Below wd.heap.size wd w1) => few_any o w1 (ho.below (below_more hb hbx (Nat.le_refl _))))
  have HC := hid (fun w1 (hb : Below wd.heap.size wd w1) => check_any o w1 (ho.below (below_more hb hbx (Nat.le_refl _))))
  have HRC := hid (fun w1 (hb : Below wd.heap.size wd w1) => rcheck_any o w1 (ho.below (below_more hb hbx (Nat.le_refl _))))
  rw [ck_eq] at HRC
  generalize ckO o = C at HC HRC
  generalize fewL o = F at HF
  generalize kindP s = K1 at HK HRK
  generalize widthP k = K2 at HW HRW
  clear ho hall hblk
  obtain ⟨secs, sp, sc, syms, yp, yc⟩ := o
  unfold Ob.cells at HF HC HRC g0 g1 hwd
  dsimp only at HF HC HRC g0 g1 hwd
  simp only [List.getElem?_toArray, List.getElem?_cons_zero, List.getElem?_cons_succ] at g0 g1
  show Calls Try.prog 3 #[.agg #[.slice sp secs.length sc, .slice yp syms.length yc], .string s, .int .i64 k] w _
  have hkk : (K1 == K1) = true := by simp
  have hww : (K2 == K2) = true := by simp
  have hcc : (C == C) = true := by simp
  go_enter Try.func3, Try.ntmps3
  go_upto_region 1 with (fail)
  rw [← hwd]
  clear hwd
  cases F with
  | true =>
    go_region_held3 (fun w' => Below wd.heap.size wd w') (first | exact (Below.refl _ _).drew | assumption) (first | (go_at_call 8; with_reducible refine (HB.out _).mono ?_; rintro e w' ⟨rfl, hbq⟩; have hq2 : Below wd.heap.size wd w' := below_more hbq (by assumption) (Nat.le_refl _); clear hbq) | (go_at_call 9; with_reducible refine (HK.out _).mono ?_; rintro e w' ⟨rfl, hbq⟩; have hq2 : Below wd.heap.size wd w' := below_more hbq (by assumption) (Nat.le_refl _); clear hbq) | (go_at_call 10; with_reducible refine (HRK.out _).mono ?_; rintro e w' ⟨rfl, rfl⟩) | (go_at_call 11; with_reducible refine (HW.out _).mono ?_; rintro e w' ⟨rfl, rfl⟩) | (go_at_call 12; with_reducible refine (HRW.out _).mono ?_; rintro e w' ⟨rfl, rfl⟩) | (go_at_call 13; with_reducible refine (HF.out _ (by assumption)).mono ?_; rintro e w' ⟨rfl, hbq⟩; have hq2 : Below wd.heap.size wd w' := below_more hbq (by assumption) (Nat.le_refl _); clear hbq) | (go_at_call 14; with_reducible refine (HC.out _ (by assumption)).mono ?_; rintro e w' ⟨rfl, hbq⟩; have hq2 : Below wd.heap.size wd w' := below_more hbq (by assumption) (Nat.le_refl _); clear hbq) | (go_at_call 15; with_reducible refine (HRC.out _ (by assumption)).mono ?_; rintro e w' ⟨rfl, hbq⟩; have hq2 : Below wd.heap.size wd w' := below_more hbq (by assumption) (Nat.le_refl _); clear hbq))
    all_goals
      go_wp2
      go_ret
      exact ⟨ret_bool rfl, below_more (by assumption) hbx (Nat.le_refl _)⟩
  | false =>
    refine wp_region_held_drew (S := fun w' => Below wd.heap.size wd w') (by kernel_rfl) ((Below.refl _ _).drew) (fun hHeld => ?_)
    refine wpAnyH_ready (rs := [0]) (by kernel_rfl) (by simp) ?_
    refine AllReadyH.cons (o := { dst := some 7, op := Op.call { callee := Callee.value (Operand.func 8), args := #[], argTypes := #[] }, type := 4, pos := "law.go:41", after := #[], guard := none }) rfl (fun K hK => ?_) AllReadyH.nil
    go_simp
    (go_at_call 8; with_reducible refine (HB.out _).mono ?_; rintro e w' ⟨rfl, hbq⟩; have hq2 : Below wd.heap.size wd w' := below_more hbq (by assumption) (Nat.le_refl _); clear hbq)
    refine hK.out _ _ (by assumption) (fun hHeld => ?_)
    clear hK K
    try simp only [Act.put, List.setIfInBounds_toArray, List.set_cons_zero, List.set_cons_succ]
    refine wpAnyH_take (i := 1) (oi := { dst := some 8, op := Op.move (Operand.tmp 7), type := 4, pos := "law.go:41", after := #[{ on := 0, ground := Ground.data }, { on := 0, ground := Ground.chain }], guard := none }) (v := ?cv1) rfl (by kernel_rfl) (by kernel_rfl) (by kernel_rfl) (fun _ _ _ h => h) (Or.inl ⟨by rfl, ?ch1⟩) (by assumption) ?cr1
    case ch1 => ((intro w hSw; (try dsimp only at hSw); go_simp); try with_reducible rfl)
    try simp only [Act.put, List.setIfInBounds_toArray, List.set_cons_zero, List.set_cons_succ]
    refine wpAnyH_take (i := 2) (oi := { dst := some 9, op := Op.move (Operand.tmp 1), type := 9, pos := "law.go:41", after := #[{ on := 1, ground := Ground.guard }], guard := some (1, true) }) (v := ?cv2) rfl (by kernel_rfl) (by kernel_rfl) (by kernel_rfl) (fun _ _ _ h => h) (Or.inl ⟨by rfl, ?ch2⟩) (by assumption) ?cr2
    case ch2 => ((intro w hSw; (try dsimp only at hSw); go_simp); try with_reducible rfl)
    try simp only [Act.put, List.setIfInBounds_toArray, List.set_cons_zero, List.set_cons_succ]
    refine wpAnyH_take (i := 4) (oi := { dst := some 11, op := Op.move (Operand.tmp 1), type := 9, pos := "law.go:41", after := #[{ on := 1, ground := Ground.guard }], guard := some (1, true) }) (v := ?cv4) rfl (by kernel_rfl) (by kernel_rfl) (by kernel_rfl) (fun _ _ _ h => h) (Or.inl ⟨by rfl, ?ch4⟩) (by assumption) ?cr4
    case ch4 => ((intro w hSw; (try dsimp only at hSw); go_simp); try with_reducible rfl)
    try simp only [Act.put, List.setIfInBounds_toArray, List.set_cons_zero, List.set_cons_succ]
    refine wpAnyH_ready (rs := [3]) (by kernel_rfl) (by simp) ?_
    refine AllReadyH.cons (o := { dst := some 10, op := Op.call { callee := Callee.value (Operand.func 9), args := #[Operand.tmp 9], argTypes := #[9] }, type := 3, pos := "law.go:41", after := #[{ on := 2, ground := Ground.data }, { on := 1, ground := Ground.chain }, { on := 1, ground := Ground.guard }], guard := some (1, true) }) rfl (fun K hK => ?_) AllReadyH.nil
    go_simp
    (go_at_call 9; with_reducible refine (HK.out _).mono ?_; rintro e w' ⟨rfl, hbq⟩; have hq2 : Below wd.heap.size wd w' := below_more hbq (by assumption) (Nat.le_refl _); clear hbq)
    refine hK.out _ _ (by assumption) (fun hHeld => ?_)
    clear hK K
    try simp only [Act.put, List.setIfInBounds_toArray, List.set_cons_zero, List.set_cons_succ]
    refine wpAnyH_ready (rs := [5]) (by kernel_rfl) (by simp) ?_
    refine AllReadyH.cons (o := { dst := some 12, op := Op.call { callee := Callee.value (Operand.func 10), args := #[Operand.tmp 11], argTypes := #[9] }, type := 3, pos := "law.go:41", after := #[{ on := 4, ground := Ground.data }, { on := 3, ground := Ground.chain }, { on := 1, ground := Ground.guard }], guard := some (1, true) }) rfl (fun K hK => ?_) AllReadyH.nil
    go_simp
    (go_at_call 10; with_reducible refine (HRK.out _).mono ?_; rintro e w' ⟨rfl, rfl⟩)
    refine hK.out _ _ (by assumption) (fun hHeld => ?_)
    clear hK K
    try simp only [Act.put, List.setIfInBounds_toArray, List.set_cons_zero, List.set_cons_succ]
    refine wpAnyH_take (i := 6) (oi := { dst := some 13, op := Op.binOp BinOp.eql 3 (Operand.tmp 10) (Operand.tmp 12) 3, type := 4, pos := "law.go:41", after := #[{ on := 3, ground := Ground.data }, { on := 5, ground := Ground.data }, { on := 1, ground := Ground.guard }], guard := some (1, true) }) (v := ?cv6) rfl (by kernel_rfl) (by kernel_rfl) (by kernel_rfl) (fun _ _ _ h => h) (Or.inl ⟨by rfl, ?ch6⟩) (by assumption) ?cr6
    case ch6 => ((intro w hSw; (try dsimp only at hSw); go_simp); try with_reducible rfl)
    try simp only [Act.put, List.setIfInBounds_toArray, List.set_cons_zero, List.set_cons_succ]
    refine wpAnyH_take (i := 7) (oi := { dst := some 14, op := Op.pick (Operand.tmp 8) (Operand.tmp 13) (Operand.const (Value.bool false)), type := 4, pos := "law.go:41", after := #[{ on := 1, ground := Ground.data }, { on := 6, ground := Ground.data }], guard := none }) (v := ?cv7) rfl (by kernel_rfl) (by kernel_rfl) (by kernel_rfl) (fun _ _ _ h => h) (Or.inl ⟨by rfl, ?ch7⟩) (by assumption) ?cr7
    case ch7 => ((intro w hSw; (try dsimp only at hSw); go_simp); try with_reducible rfl)
    try simp only [Act.put, List.setIfInBounds_toArray, List.set_cons_zero, List.set_cons_succ]
    refine wpAnyH_take (i := 8) (oi := { dst := some 15, op := Op.move (Operand.tmp 14), type := 4, pos := "law.go:41", after := #[{ on := 7, ground := Ground.data }, { on := 5, ground := Ground.chain }], guard := none }) (v := ?cv8) rfl (by kernel_rfl) (by kernel_rfl) (by kernel_rfl) (fun _ _ _ h => h) (Or.inl ⟨by rfl, ?ch8⟩) (by assumption) ?cr8
    case ch8 => ((intro w hSw; (try dsimp only at hSw); go_simp); try with_reducible rfl)
    try simp only [Act.put, List.setIfInBounds_toArray, List.set_cons_zero, List.set_cons_succ]
    refine wpAnyH_take (i := 9) (oi := { dst := some 16, op := Op.move (Operand.tmp 2), type := 3, pos := "law.go:41", after := #[{ on := 8, ground := Ground.guard }], guard := some (8, true) }) (v := ?cv9) rfl (by kernel_rfl) (by kernel_rfl) (by kernel_rfl) (fun _ _ _ h => h) (Or.inl ⟨by rfl, ?ch9⟩) (by assumption) ?cr9
    case ch9 => ((intro w hSw; (try dsimp only at hSw); go_simp); try with_reducible rfl)
    try simp only [Act.put, List.setIfInBounds_toArray, List.set_cons_zero, List.set_cons_succ]
    refine wpAnyH_take (i := 11) (oi := { dst := some 18, op := Op.move (Operand.tmp 2), type := 3, pos := "law.go:41", after := #[{ on := 8, ground := Ground.guard }], guard := some (8, true) }) (v := ?cv11) rfl (by kernel_rfl) (by kernel_rfl) (by kernel_rfl) (fun _ _ _ h => h) (Or.inl ⟨by rfl, ?ch11⟩) (by assumption) ?cr11
    case ch11 => ((intro w hSw; (try dsimp only at hSw); go_simp); try with_reducible rfl)
    try simp only [Act.put, List.setIfInBounds_toArray, List.set_cons_zero, List.set_cons_succ]
    refine wpAnyH_ready (rs := [10]) (by kernel_rfl) (by simp) ?_
    refine AllReadyH.cons (o := { dst := some 17, op := Op.call { callee := Callee.value (Operand.func 11), args := #[Operand.tmp 16], argTypes := #[3] }, type := 3, pos := "law.go:41", after := #[{ on := 9, ground := Ground.data }, { on := 8, ground := Ground.chain }, { on := 8, ground := Ground.guard }], guard := some (8, true) }) rfl (fun K hK => ?_) AllReadyH.nil
    go_simp
    (go_at_call 11; with_reducible refine (HW.out _).mono ?_; rintro e w' ⟨rfl, rfl⟩)
    refine hK.out _ _ (by assumption) (fun hHeld => ?_)
    clear hK K
    try simp only [Act.put, List.setIfInBounds_toArray, List.set_cons_zero, List.set_cons_succ]
    refine wpAnyH_ready (rs := [12]) (by kernel_rfl) (by simp) ?_
    refine AllReadyH.cons (o := { dst := some 19, op := Op.call { callee := Callee.value (Operand.func 12), args := #[Operand.tmp 18], argTypes := #[3] }, type := 3, pos := "law.go:41", after := #[{ on := 11, ground := Ground.data }, { on := 10, ground := Ground.chain }, { on := 8, ground := Ground.guard }], guard := some (8, true) }) rfl (fun K hK => ?_) AllReadyH.nil
    go_simp
    (go_at_call 12; with_reducible refine (HRW.out _).mono ?_; rintro e w' ⟨rfl, rfl⟩)
    refine hK.out _ _ (by assumption) (fun hHeld => ?_)
    clear hK K
    try simp only [Act.put, List.setIfInBounds_toArray, List.set_cons_zero, List.set_cons_succ]
    refine wpAnyH_take (i := 13) (oi := { dst := some 20, op := Op.binOp BinOp.eql 3 (Operand.tmp 17) (Operand.tmp 19) 3, type := 4, pos := "law.go:41", after := #[{ on := 10, ground := Ground.data }, { on := 12, ground := Ground.data }, { on := 8, ground := Ground.guard }], guard := some (8, true) }) (v := ?cv13) rfl (by kernel_rfl) (by kernel_rfl) (by kernel_rfl) (fun _ _ _ h => h) (Or.inl ⟨by rfl, ?ch13⟩) (by assumption) ?cr13
    case ch13 => ((intro w hSw; (try dsimp only at hSw); go_simp); try with_reducible rfl)
    try simp only [Act.put, List.setIfInBounds_toArray, List.set_cons_zero, List.set_cons_succ]
    refine wpAnyH_take (i := 14) (oi := { dst := some 21, op := Op.pick (Operand.tmp 15) (Operand.tmp 20) (Operand.const (Value.bool false)), type := 4, pos := "law.go:41", after := #[{ on := 8, ground := Ground.data }, { on := 13, ground := Ground.data }], guard := none }) (v := ?cv14) rfl (by kernel_rfl) (by kernel_rfl) (by kernel_rfl) (fun _ _ _ h => h) (Or.inl ⟨by rfl, ?ch14⟩) (by assumption) ?cr14
    case ch14 => ((intro w hSw; (try dsimp only at hSw); go_simp); try with_reducible rfl)
    try simp only [Act.put, List.setIfInBounds_toArray, List.set_cons_zero, List.set_cons_succ]
    refine wpAnyH_take (i := 15) (oi := { dst := some 22, op := Op.move (Operand.tmp 21), type := 4, pos := "law.go:41", after := #[{ on := 14, ground := Ground.data }, { on := 12, ground := Ground.chain }], guard := none }) (v := ?cv15) rfl (by kernel_rfl) (by kernel_rfl) (by kernel_rfl) (fun _ _ _ h => h) (Or.inl ⟨by rfl, ?ch15⟩) (by assumption) ?cr15
    case ch15 => ((intro w hSw; (try dsimp only at hSw); go_simp); try with_reducible rfl)
    try simp only [Act.put, List.setIfInBounds_toArray, List.set_cons_zero, List.set_cons_succ]
    refine wpAnyH_take (i := 16) (oi := { dst := some 23, op := Op.load 25 (Operand.tmp 3), type := 25, pos := "law.go:41", after := #[{ on := 15, ground := Ground.guard }], guard := some (15, true) }) (v := ?cv16) rfl (by kernel_rfl) (by kernel_rfl) (by kernel_rfl) (fun _ _ _ h => h) (Or.inl ⟨by rfl, ?ch16⟩) (by assumption) ?cr16
    case ch16 => ((intro w hSw; (try dsimp only at hSw); go_simp); try with_reducible rfl)
    try simp only [Act.put, List.setIfInBounds_toArray, List.set_cons_zero, List.set_cons_succ]
    refine wpAnyH_ready (rs := [17]) (by kernel_rfl) (by simp) ?_
    refine AllReadyH.cons (o := { dst := some 24, op := Op.call { callee := Callee.value (Operand.func 13), args := #[Operand.tmp 23], argTypes := #[25] }, type := 4, pos := "law.go:41", after := #[{ on := 16, ground := Ground.data }, { on := 15, ground := Ground.chain }, { on := 15, ground := Ground.guard }], guard := some (15, true) }) rfl (fun K hK => ?_) AllReadyH.nil
    go_simp
    (go_at_call 13; with_reducible refine (HF.out _ (by assumption)).mono ?_; rintro e w' ⟨rfl, hbq⟩; have hq2 : Below wd.heap.size wd w' := below_more hbq (by assumption) (Nat.le_refl _); clear hbq)
    refine hK.out _ _ (by assumption) (fun hHeld => ?_)
    clear hK K
    try simp only [Act.put, List.setIfInBounds_toArray, List.set_cons_zero, List.set_cons_succ]
    refine wpAnyH_take (i := 18) (oi := { dst := some 25, op := Op.unOp UnOp.not 4 (Operand.tmp 24), type := 4, pos := "law.go:41", after := #[{ on := 17, ground := Ground.data }, { on := 15, ground := Ground.guard }], guard := some (15, true) }) (v := ?cv18) rfl (by kernel_rfl) (by kernel_rfl) (by kernel_rfl) (fun _ _ _ h => h) (Or.inl ⟨by rfl, ?ch18⟩) (by assumption) ?cr18
    case ch18 => ((intro w hSw; (try dsimp only at hSw); go_simp); try with_reducible rfl)
    try simp only [Act.put, List.setIfInBounds_toArray, List.set_cons_zero, List.set_cons_succ]
    refine wpAnyH_take (i := 19) (oi := { dst := some 26, op := Op.move (Operand.tmp 25), type := 4, pos := "law.go:41", after := #[{ on := 18, ground := Ground.data }, { on := 17, ground := Ground.chain }, { on := 15, ground := Ground.guard }], guard := some (15, true) }) (v := ?cv19) rfl (by kernel_rfl) (by kernel_rfl) (by kernel_rfl) (fun _ _ _ h => h) (Or.inl ⟨by rfl, ?ch19⟩) (by assumption) ?cr19
    case ch19 => ((intro w hSw; (try dsimp only at hSw); go_simp); try with_reducible rfl)
    try simp only [Act.put, List.setIfInBounds_toArray, List.set_cons_zero, List.set_cons_succ]
    refine wpAnyH_take (i := 20) (oi := { dst := some 27, op := Op.load 25 (Operand.tmp 3), type := 25, pos := "law.go:41", after := #[{ on := 19, ground := Ground.guard }], guard := some (19, false) }) (v := undef) rfl (by kernel_rfl) (by kernel_rfl) (by kernel_rfl) (fun _ _ _ h => h) (Or.inr ⟨by rfl, rfl⟩) (by assumption) ?_
    try simp only [Act.put, List.setIfInBounds_toArray, List.set_cons_zero, List.set_cons_succ]
    refine wpAnyH_take (i := 21) (oi := { dst := some 28, op := Op.call { callee := Callee.value (Operand.func 14), args := #[Operand.tmp 27], argTypes := #[25] }, type := 30, pos := "law.go:41", after := #[{ on := 20, ground := Ground.data }, { on := 19, ground := Ground.chain }, { on := 19, ground := Ground.guard }], guard := some (19, false) }) (v := undef) rfl (by kernel_rfl) (by kernel_rfl) (by kernel_rfl) (fun _ _ _ h => h) (Or.inr ⟨by rfl, rfl⟩) (by assumption) ?_
    try simp only [Act.put, List.setIfInBounds_toArray, List.set_cons_zero, List.set_cons_succ]
    refine wpAnyH_take (i := 22) (oi := { dst := some 29, op := Op.load 25 (Operand.tmp 3), type := 25, pos := "law.go:41", after := #[{ on := 19, ground := Ground.guard }], guard := some (19, false) }) (v := undef) rfl (by kernel_rfl) (by kernel_rfl) (by kernel_rfl) (fun _ _ _ h => h) (Or.inr ⟨by rfl, rfl⟩) (by assumption) ?_
    try simp only [Act.put, List.setIfInBounds_toArray, List.set_cons_zero, List.set_cons_succ]
    refine wpAnyH_take (i := 23) (oi := { dst := some 30, op := Op.call { callee := Callee.value (Operand.func 15), args := #[Operand.tmp 29], argTypes := #[25] }, type := 30, pos := "law.go:41", after := #[{ on := 22, ground := Ground.data }, { on := 21, ground := Ground.chain }, { on := 19, ground := Ground.guard }], guard := some (19, false) }) (v := undef) rfl (by kernel_rfl) (by kernel_rfl) (by kernel_rfl) (fun _ _ _ h => h) (Or.inr ⟨by rfl, rfl⟩) (by assumption) ?_
    try simp only [Act.put, List.setIfInBounds_toArray, List.set_cons_zero, List.set_cons_succ]
    refine wpAnyH_take (i := 24) (oi := { dst := some 31, op := Op.binOp BinOp.eql 30 (Operand.tmp 28) (Operand.tmp 30) 30, type := 4, pos := "law.go:41", after := #[{ on := 21, ground := Ground.data }, { on := 23, ground := Ground.data }, { on := 19, ground := Ground.guard }], guard := some (19, false) }) (v := undef) rfl (by kernel_rfl) (by kernel_rfl) (by kernel_rfl) (fun _ _ _ h => h) (Or.inr ⟨by rfl, rfl⟩) (by assumption) ?_
    try simp only [Act.put, List.setIfInBounds_toArray, List.set_cons_zero, List.set_cons_succ]
    refine wpAnyH_take (i := 25) (oi := { dst := some 32, op := Op.pick (Operand.tmp 26) (Operand.const (Value.bool true)) (Operand.tmp 31), type := 4, pos := "law.go:41", after := #[{ on := 19, ground := Ground.data }, { on := 24, ground := Ground.data }, { on := 15, ground := Ground.guard }], guard := some (15, true) }) (v := ?cv25) rfl (by kernel_rfl) (by kernel_rfl) (by kernel_rfl) (fun _ _ _ h => h) (Or.inl ⟨by rfl, ?ch25⟩) (by assumption) ?cr25
    case ch25 => ((intro w hSw; (try dsimp only at hSw); go_simp); try with_reducible rfl)
    try simp only [Act.put, List.setIfInBounds_toArray, List.set_cons_zero, List.set_cons_succ]
    refine wpAnyH_take (i := 26) (oi := { dst := some 33, op := Op.pick (Operand.tmp 22) (Operand.tmp 32) (Operand.const (Value.bool false)), type := 4, pos := "law.go:41", after := #[{ on := 15, ground := Ground.data }, { on := 25, ground := Ground.data }], guard := none }) (v := ?cv26) rfl (by kernel_rfl) (by kernel_rfl) (by kernel_rfl) (fun _ _ _ h => h) (Or.inl ⟨by rfl, ?ch26⟩) (by assumption) ?cr26
    case ch26 => ((intro w hSw; (try dsimp only at hSw); go_simp); try with_reducible rfl)
    try simp only [Act.put, List.setIfInBounds_toArray, List.set_cons_zero, List.set_cons_succ]
    refine wpAnyH_take (i := 27) (oi := { dst := some 6, op := Op.assign (Operand.tmp 33), type := 4, pos := "law.go:41", after := #[{ on := 26, ground := Ground.data }, { on := 23, ground := Ground.chain }, { on := 0, ground := Ground.phase }, { on := 1, ground := Ground.phase }, { on := 2, ground := Ground.phase }, { on := 3, ground := Ground.phase }, { on := 4, ground := Ground.phase }, { on := 5, ground := Ground.phase }, { on := 6, ground := Ground.phase }, { on := 7, ground := Ground.phase }, { on := 8, ground := Ground.phase }, { on := 9, ground := Ground.phase }, { on := 10, ground := Ground.phase }, { on := 11, ground := Ground.phase }, { on := 12, ground := Ground.phase }, { on := 13, ground := Ground.phase }, { on := 14, ground := Ground.phase }, { on := 15, ground := Ground.phase }, { on := 16, ground := Ground.phase }, { on := 17, ground := Ground.phase }, { on := 18, ground := Ground.phase }, { on := 19, ground := Ground.phase }, { on := 20, ground := Ground.phase }, { on := 21, ground := Ground.phase }, { on := 22, ground := Ground.phase }, { on := 23, ground := Ground.phase }, { on := 24, ground := Ground.phase }, { on := 25, ground := Ground.phase }, { on := 26, ground := Ground.phase }], guard := none }) (v := ?cv27) rfl (by kernel_rfl) (by kernel_rfl) (by kernel_rfl) (fun _ _ _ h => h) (Or.inl ⟨by rfl, ?ch27⟩) (by assumption) ?cr27
    case ch27 => ((intro w hSw; (try dsimp only at hSw); go_simp); try with_reducible rfl)
    try simp only [Act.put, List.setIfInBounds_toArray, List.set_cons_zero, List.set_cons_succ]
    refine wpAnyH_done (by kernel_rfl) ?_ _
    go_wp2
    go_ret
    exact ⟨ret_bool rfl, below_more (by assumption) hbx (Nat.le_refl _)⟩
end Go.Proofs.Yteccpmmedpkddaa
