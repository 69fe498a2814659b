/-
 The document's Faults: the walk.
 The order of faults: lists that rise.
 cmp.Compare and cmp.Or.
 frag.order.
-/
import Derived.Test.YthlingholhjcnaaJJ12
import Derived.Sort.Grow
namespace Go.Proofs.Ythlingholhjcnaa
open Go.RowKit
variable {W w w' : World}
set_option maxRecDepth 40000 in
set_option maxHeartbeats 4000000 in
theorem rfaults_any (pp mp gp : Option Addr) (pc mc gn gc : Nat) (ps : List PtR) (ms : List Mk) (W : World) (hps : Row W pp (ps.flatMap PtR.cells)) (hms : Row W mp (ms.flatMap Mk.cells)) (hpl : ps.length ≤ 10000000) (hml : ms.length ≤ 10000000) :
  Calls Try.prog 21 #[.agg #[.slice pp ps.length pc, .slice mp ms.length mc, .slice gp gn gc]] W (FaT W (longR ps (dupsR ms ms.length) (ps.length - 64))) := by
 obtain ⟨NP, hNP⟩ : ∃ NP, NP = ps.length := ⟨_, rfl⟩
 obtain ⟨NM, hNM⟩ : ∃ NM, NM = ms.length := ⟨_, rfl⟩
 have HNP := hid hNP
 have HNM := hid hNM
 have HPS := hid hps
 have HMS := hid hms
 rw [← hNP] at hpl
 rw [← hNM] at hml
 rw [← hNP, ← hNM]
 obtain ⟨W1, hW1⟩ : ∃ W1, W1 = W.alloc (.cells #[.slice pp NP pc, .slice mp NM mc, .slice gp gn gc] 32) := ⟨_, rfl⟩
 obtain ⟨ub, hub⟩ : ∃ ub, ub = [Value.slice pp NP pc, .slice mp NM mc, .slice gp gn gc] := ⟨_, rfl⟩
 have h1 : FaI W ub [] (.slice none 0 0) W1 := ⟨⟨none, 0, rfl, Row.nil _ _⟩, by rw [hW1, hub]; exact heap_alloc_new _ _, by rw [hW1]; exact alloc_below _ _⟩
 have HW1 := hid hW1
 have H1 := hid h1
 have HBX : Hid (∀ w : World, w.heap[W.heap.size]? = some (.cells ub.toArray 32 (0, 0)) → w.cell? ⟨W.heap.size, 0, none⟩ = some (.slice pp NP pc) ∧ w.cell? ⟨W.heap.size, 1, none⟩ = some (.slice mp NM mc)) := fun w h => by
  rw [hub] at h
  exact ⟨cell_of_row _ _ 0 _ _ _ h, cell_of_row _ _ 1 _ _ _ h⟩
 clear hNP hNM hps hms hW1 hub h1
 go_enter Try.func21, Try.ntmps21
 go_upto_region 1 with (fail)
 rw [← HW1.out]
 go_wp2_with (fail)
 go_loopw [3, 4] (fun v i wr => ∃ (k : Nat), k ≤ NM ∧ i = .int .i64 k ∧ FaI W ub (dupsR ms k) v wr) (fun _ i _ => NM - (intOf i).toNat)
 case atStart => exact ⟨0, Nat.zero_le _, rfl, H1.out⟩
 case round =>
  rename World => wr
  obtain ⟨k, hk, rfl, hi⟩ := hrel
  have hLl := dupsR_len ms k
  obtain ⟨L, hL⟩ : ∃ L, L = dupsR ms k := ⟨_, rfl⟩
  have HL := hid hL
  rw [← hL] at hLl hi
  obtain ⟨lp, lc, hv, hlr⟩ := hi.ex
  subst hv
  have HI := hid hi
  obtain ⟨c0, c1⟩ := HBX.out _ hi.box
  by_cases hlt : k < NM
  ·have hkI : (k : Int) < NM := by omega
   have hkl : k < ms.length := by rw [← HNM.out]; exact hlt
   have hmr := HMS.out.below hi.b
   obtain ⟨kb, ko, rfl, hkb, -⟩ := hmr.at (by rw [flat_len Mk.cells 9 (fun _ => rfl)]; omega)
   obtain ⟨x0, x1, x2, x3, x4, x5, x6, x7, x8⟩ := mk_cells hmr k hkl
   have HX : Hid (ms[k]? = some ms[k]) := List.getElem?_eq_getElem hkl
   generalize ms[k] = x at *
   obtain ⟨W9, hW9⟩ : ∃ W9, W9 = wr.alloc (.cells #[.string x.name, .int .i64 x.file, .int .i64 x.line, .int .i64 x.part, .int .i64 x.piece, .bool x.equ, .int .i64 x.v.add, .string x.v.plus, .string x.v.minus] 81) := ⟨_, rfl⟩
   have HW9 := hid hW9
   have hb9 : Below wr.heap.size wr W9 := by rw [hW9]; exact alloc_below _ _
   have HX9 : Hid (BxM wr.heap.size x W9) := by unfold Hid BxM; rw [hW9]; exact heap_alloc_new _ _
   have HI9 := hid (HI.out.below hb9)
   have HB9 := hid hb9
   have HNX : Hid (wr.heap.size < W9.heap.size) := by rw [hW9]; unfold Hid; simp
   clear hi hlr hmr hb9 hW9 hL
   go_upto_region 6 with (fail)
   rw [← HW9.out]
   clear x0 x1 x2 x3 x4 x5 x6 x7 x8 c0 c1
   go_wp2_with fail
   go_loopw [3, 6] (fun v i wy => ∃ (j : Nat), j ≤ k ∧ v = .slice lp L.length lc ∧ i = .int .i64 j ∧ Below W9.heap.size W9 wy ∧ ∀ q (h : q < j) (h2 : q < ms.length), ms[q].name ≠ x.name) (fun _ i _ => k - (intOf i).toNat)
   case atStart => exact ⟨0, Nat.zero_le _, rfl, rfl, Below.refl _ _, fun q h _ => absurd h (Nat.not_lt_zero _)⟩
   case round =>
    rename World => wy
    obtain ⟨j, hj, rfl, rfl, hby, hne⟩ := hrel
    have HBY := hid hby
    have HNE := hid hne
    have hiy := HI9.out.below hby
    have HIY := hid hiy
    by_cases hjl : j < k
    ·have hjI : (j : Int) < k := by omega
     have hjl2 : j < ms.length := by omega
     obtain ⟨wd, hwd⟩ : ∃ wd, wd = wy.drew := ⟨_, rfl⟩
     have hbd : Below wy.heap.size wy wd := by rw [hwd]; exact (Below.refl _ _).drew
     have hid9 := hiy.below hbd
     have HID9 := hid hid9
     obtain ⟨c0, c1⟩ := HBX.out _ hid9.box
     have y0 := (mk_cells (HMS.out.below hid9.b) j hjl2).1
     have hxd : BxM wr.heap.size x wd := (hbd.block _ (by have := HNX.out; have := hby.size; omega)).trans ((hby.block _ HNX.out).trans HX9.out)
     obtain ⟨z0, z1, z2, -⟩ := boxm_cells hxd
     have hjn : (j : Int) < NM := by omega
     obtain ⟨lp2, lc2, e2, hlr2⟩ := hid9.ex
     cases e2
     have HDN : Hid (ms[j].name = x.name → dupsR ms (k + 1) = putP ⟨x.file, x.line, 5⟩ L) := fun he => by
      unfold dupsR
      rw [HX.out]
      dsimp only
      rw [if_pos, ← HL.out]
      rw [List.any_eq_true]
      exact ⟨ms[j], List.mem_take_iff_getElem.2 ⟨j, by omega, rfl⟩, by simpa using he⟩
     have HLR := hid hlr2
     have HPU := hid (fput_any lp lc L ⟨x.file, x.line, 5⟩ wd hlr2 (by omega))
     dsimp only at HPU
     by_cases he : ms[j].name = x.name
     ·have hes := strEq he
      have HE := hid he
      clear he
      obtain ⟨kn, hkn⟩ : ∃ kn, kn = ms[j].name := ⟨_, rfl⟩
      rw [← hkn] at hes y0
      clear hkn hby hne hiy hbd hid9 hxd hlr2
      go_wp2_with (fail)
      go_upto_region 9 with (fail)
      refine wp_region_held_drew (S := fun _ => True) (by kernel_rfl) trivial (fun hHeld => ?_)
      rw [← hwd] at *
      refine wpAnyH_take (i := 0) (oi := { dst := some 25, op := Op.fieldAddr 32 (Operand.tmp 1) 1, type := 0, pos := "ref.go:228", after := #[], guard := none }) (v := ?pav0) rfl (by kernel_rfl) (by kernel_rfl) (by kernel_rfl) (fun _ _ _ h => h) (Or.inl ⟨by rfl, ?pah0⟩) (by assumption) ?par0
      case pah0 => ((intro w hSw; (try dsimp only at hSw); go_simp); try with_reducible rfl)
      try simp only [Act.put, List.setIfInBounds_toArray, List.set_cons_zero, List.set_cons_succ]
      refine wpAnyH_take (i := 2) (oi := { dst := some 27, op := Op.move (Operand.tmp 6), type := 3, pos := "ref.go:228", after := #[], guard := none }) (v := ?pav2) rfl (by kernel_rfl) (by kernel_rfl) (by kernel_rfl) (fun _ _ _ h => h) (Or.inl ⟨by rfl, ?pah2⟩) (by assumption) ?par2
      case pah2 => ((intro w hSw; (try dsimp only at hSw); go_simp); try with_reducible rfl)
      try simp only [Act.put, List.setIfInBounds_toArray, List.set_cons_zero, List.set_cons_succ]
      refine wpAnyH_take (i := 6) (oi := { dst := some 31, op := Op.fieldAddr 81 (Operand.tmp 5) 0, type := 0, pos := "ref.go:228", after := #[], guard := none }) (v := ?pav6) rfl (by kernel_rfl) (by kernel_rfl) (by kernel_rfl) (fun _ _ _ h => h) (Or.inl ⟨by rfl, ?pah6⟩) (by assumption) ?par6
      case pah6 => ((intro w hSw; (try dsimp only at hSw); go_simp); try with_reducible rfl)
      try simp only [Act.put, List.setIfInBounds_toArray, List.set_cons_zero, List.set_cons_succ]
      refine wpAnyH_ready (rs := [1, 7]) (by kernel_rfl) (by simp) ?_
      refine AllReadyH.cons (o := { dst := some 26, op := Op.load 29 (Operand.tmp 25), type := 29, pos := "ref.go:228", after := #[{ on := 0, ground := Ground.data }], guard := none }) rfl (fun K hK => ?_) ?_
      ·go_simp; refine hK.out _ _ trivial (fun hHeld => ?_)
       clear hK K
       try simp only [Act.put, List.setIfInBounds_toArray, List.set_cons_zero, List.set_cons_succ]
       refine wpAnyH_take (i := 3) (oi := { dst := some 28, op := Op.indexAddr 29 (Operand.tmp 26) (Operand.tmp 27), type := 0, pos := "ref.go:228", after := #[{ on := 1, ground := Ground.data }, { on := 2, ground := Ground.data }], guard := none }) (v := ?paav3) rfl (by kernel_rfl) (by kernel_rfl) (by kernel_rfl) (fun _ _ _ h => h) (Or.inl ⟨by rfl, ?paah3⟩) (by assumption) ?paar3
       case paah3 => ((intro w hSw; (try dsimp only at hSw); go_simp); try with_reducible rfl)
       try simp only [Act.put, List.setIfInBounds_toArray, List.set_cons_zero, List.set_cons_succ]
       refine wpAnyH_take (i := 4) (oi := { dst := some 29, op := Op.fieldAddr 81 (Operand.tmp 28) 0, type := 0, pos := "ref.go:228", after := #[{ on := 3, ground := Ground.data }], guard := none }) (v := ?paav4) rfl (by kernel_rfl) (by kernel_rfl) (by kernel_rfl) (fun _ _ _ h => h) (Or.inl ⟨by rfl, ?paah4⟩) (by assumption) ?paar4
       case paah4 => ((intro w hSw; (try dsimp only at hSw); go_simp); try with_reducible rfl)
       try simp only [Act.put, List.setIfInBounds_toArray, List.set_cons_zero, List.set_cons_succ]
       refine wpAnyH_ready (rs := [5, 7]) (by kernel_rfl) (by simp) ?_
       refine AllReadyH.cons (o := { dst := some 30, op := Op.load 9 (Operand.tmp 29), type := 9, pos := "ref.go:228", after := #[{ on := 4, ground := Ground.data }], guard := none }) rfl (fun K hK => ?_) ?_
       ·go_simp; refine hK.out _ _ trivial (fun hHeld => ?_)
        clear hK K
        try simp only [Act.put, List.setIfInBounds_toArray, List.set_cons_zero, List.set_cons_succ]
        refine wpAnyH_ready (rs := [7]) (by kernel_rfl) (by simp) ?_
        refine AllReadyH.cons (o := { dst := some 32, op := Op.load 9 (Operand.tmp 31), type := 9, pos := "ref.go:228", after := #[{ on := 6, ground := Ground.data }], guard := none }) rfl (fun K hK => ?_) AllReadyH.nil
        go_simp; refine hK.out _ _ trivial (fun hHeld => ?_)
        clear hK K
        try simp only [Act.put, List.setIfInBounds_toArray, List.set_cons_zero, List.set_cons_succ]
        refine wpAnyH_take (i := 8) (oi := { dst := some 33, op := Op.binOp BinOp.eql 9 (Operand.tmp 30) (Operand.tmp 32) 9, type := 4, pos := "ref.go:228", after := #[{ on := 5, ground := Ground.data }, { on := 7, ground := Ground.data }], guard := none }) (v := ?paaav8) rfl (by kernel_rfl) (by kernel_rfl) (by kernel_rfl) (fun _ _ _ h => h) (Or.inl ⟨by rfl, ?paaah8⟩) (by assumption) ?paaar8
        case paaah8 => ((intro w hSw; (try dsimp only at hSw); go_simp); try with_reducible rfl)
        try simp only [Act.put, List.setIfInBounds_toArray, List.set_cons_zero, List.set_cons_succ]
        refine wpAnyH_done (by kernel_rfl) ?_ _
        go_wp2_with (go_at_call 35; (with_reducible refine HPU.out.mono ?_); rintro e w2 hpu; obtain ⟨v2, rfl, -⟩ := hpu.ex; have HF := hid (HID9.out.put hpu); clear hpu)
        exact ⟨⟨k + 1, by omega, by go_num, by rw [HDN.out HE.out]; exact HF.out⟩, by simp [intOf]; omega⟩
       refine AllReadyH.cons (o := { dst := some 32, op := Op.load 9 (Operand.tmp 31), type := 9, pos := "ref.go:228", after := #[{ on := 6, ground := Ground.data }], guard := none }) rfl (fun K hK => ?_) AllReadyH.nil
       go_simp; refine hK.out _ _ trivial (fun hHeld => ?_)
       clear hK K
       try simp only [Act.put, List.setIfInBounds_toArray, List.set_cons_zero, List.set_cons_succ]
       refine wpAnyH_ready (rs := [5]) (by kernel_rfl) (by simp) ?_
       refine AllReadyH.cons (o := { dst := some 30, op := Op.load 9 (Operand.tmp 29), type := 9, pos := "ref.go:228", after := #[{ on := 4, ground := Ground.data }], guard := none }) rfl (fun K hK => ?_) AllReadyH.nil
       go_simp; refine hK.out _ _ trivial (fun hHeld => ?_)
       clear hK K
       try simp only [Act.put, List.setIfInBounds_toArray, List.set_cons_zero, List.set_cons_succ]
       refine wpAnyH_take (i := 8) (oi := { dst := some 33, op := Op.binOp BinOp.eql 9 (Operand.tmp 30) (Operand.tmp 32) 9, type := 4, pos := "ref.go:228", after := #[{ on := 5, ground := Ground.data }, { on := 7, ground := Ground.data }], guard := none }) (v := ?paabv8) rfl (by kernel_rfl) (by kernel_rfl) (by kernel_rfl) (fun _ _ _ h => h) (Or.inl ⟨by rfl, ?paabh8⟩) (by assumption) ?paabr8
       case paabh8 => ((intro w hSw; (try dsimp only at hSw); go_simp); try with_reducible rfl)
       try simp only [Act.put, List.setIfInBounds_toArray, List.set_cons_zero, List.set_cons_succ]
       refine wpAnyH_done (by kernel_rfl) ?_ _
       go_wp2_with (go_at_call 35; (with_reducible refine HPU.out.mono ?_); rintro e w2 hpu; obtain ⟨v2, rfl, -⟩ := hpu.ex; have HF := hid (HID9.out.put hpu); clear hpu)
       exact ⟨⟨k + 1, by omega, by go_num, by rw [HDN.out HE.out]; exact HF.out⟩, by simp [intOf]; omega⟩
      refine AllReadyH.cons (o := { dst := some 32, op := Op.load 9 (Operand.tmp 31), type := 9, pos := "ref.go:228", after := #[{ on := 6, ground := Ground.data }], guard := none }) rfl (fun K hK => ?_) AllReadyH.nil
      go_simp; refine hK.out _ _ trivial (fun hHeld => ?_)
      clear hK K
      try simp only [Act.put, List.setIfInBounds_toArray, List.set_cons_zero, List.set_cons_succ]
      refine wpAnyH_ready (rs := [1]) (by kernel_rfl) (by simp) ?_
      refine AllReadyH.cons (o := { dst := some 26, op := Op.load 29 (Operand.tmp 25), type := 29, pos := "ref.go:228", after := #[{ on := 0, ground := Ground.data }], guard := none }) rfl (fun K hK => ?_) AllReadyH.nil
      go_simp; refine hK.out _ _ trivial (fun hHeld => ?_)
      clear hK K
      try simp only [Act.put, List.setIfInBounds_toArray, List.set_cons_zero, List.set_cons_succ]
      refine wpAnyH_take (i := 3) (oi := { dst := some 28, op := Op.indexAddr 29 (Operand.tmp 26) (Operand.tmp 27), type := 0, pos := "ref.go:228", after := #[{ on := 1, ground := Ground.data }, { on := 2, ground := Ground.data }], guard := none }) (v := ?pabv3) rfl (by kernel_rfl) (by kernel_rfl) (by kernel_rfl) (fun _ _ _ h => h) (Or.inl ⟨by rfl, ?pabh3⟩) (by assumption) ?pabr3
      case pabh3 => ((intro w hSw; (try dsimp only at hSw); go_simp); try with_reducible rfl)
      try simp only [Act.put, List.setIfInBounds_toArray, List.set_cons_zero, List.set_cons_succ]
      refine wpAnyH_take (i := 4) (oi := { dst := some 29, op := Op.fieldAddr 81 (Operand.tmp 28) 0, type := 0, pos := "ref.go:228", after := #[{ on := 3, ground := Ground.data }], guard := none }) (v := ?pabv4) rfl (by kernel_rfl) (by kernel_rfl) (by kernel_rfl) (fun _ _ _ h => h) (Or.inl ⟨by rfl, ?pabh4⟩) (by assumption) ?pabr4
      case pabh4 => ((intro w hSw; (try dsimp only at hSw); go_simp); try with_reducible rfl)
      try simp only [Act.put, List.setIfInBounds_toArray, List.set_cons_zero, List.set_cons_succ]
      refine wpAnyH_ready (rs := [5]) (by kernel_rfl) (by simp) ?_
      refine AllReadyH.cons (o := { dst := some 30, op := Op.load 9 (Operand.tmp 29), type := 9, pos := "ref.go:228", after := #[{ on := 4, ground := Ground.data }], guard := none }) rfl (fun K hK => ?_) AllReadyH.nil
      go_simp; refine hK.out _ _ trivial (fun hHeld => ?_)
      clear hK K
      try simp only [Act.put, List.setIfInBounds_toArray, List.set_cons_zero, List.set_cons_succ]
      refine wpAnyH_take (i := 8) (oi := { dst := some 33, op := Op.binOp BinOp.eql 9 (Operand.tmp 30) (Operand.tmp 32) 9, type := 4, pos := "ref.go:228", after := #[{ on := 5, ground := Ground.data }, { on := 7, ground := Ground.data }], guard := none }) (v := ?pabv8) rfl (by kernel_rfl) (by kernel_rfl) (by kernel_rfl) (fun _ _ _ h => h) (Or.inl ⟨by rfl, ?pabh8⟩) (by assumption) ?pabr8
      case pabh8 => ((intro w hSw; (try dsimp only at hSw); go_simp); try with_reducible rfl)
      try simp only [Act.put, List.setIfInBounds_toArray, List.set_cons_zero, List.set_cons_succ]
      refine wpAnyH_done (by kernel_rfl) ?_ _
      go_wp2_with (go_at_call 35; (with_reducible refine HPU.out.mono ?_); rintro e w2 hpu; obtain ⟨v2, rfl, -⟩ := hpu.ex; have HF := hid (HID9.out.put hpu); clear hpu)
      exact ⟨⟨k + 1, by omega, by go_num, by rw [HDN.out HE.out]; exact HF.out⟩, by simp [intOf]; omega⟩
     ·have hes := strNe he
      have HE := hid he
      clear he
      obtain ⟨kn, hkn⟩ : ∃ kn, kn = ms[j].name := ⟨_, rfl⟩
      rw [← hkn] at hes y0
      clear hkn hby hne hiy hid9 hxd hlr2
      have HBD := hid hbd
      clear hbd
      go_wp2_with (fail)
      go_upto_region 9 with (fail)
      refine wp_region_held_drew (S := fun _ => True) (by kernel_rfl) trivial (fun hHeld => ?_)
      rw [← hwd] at *
      refine wpAnyH_take (i := 0) (oi := { dst := some 25, op := Op.fieldAddr 32 (Operand.tmp 1) 1, type := 0, pos := "ref.go:228", after := #[], guard := none }) (v := ?pbv0) rfl (by kernel_rfl) (by kernel_rfl) (by kernel_rfl) (fun _ _ _ h => h) (Or.inl ⟨by rfl, ?pbh0⟩) (by assumption) ?pbr0
      case pbh0 => ((intro w hSw; (try dsimp only at hSw); go_simp); try with_reducible rfl)
      try simp only [Act.put, List.setIfInBounds_toArray, List.set_cons_zero, List.set_cons_succ]
      refine wpAnyH_take (i := 2) (oi := { dst := some 27, op := Op.move (Operand.tmp 6), type := 3, pos := "ref.go:228", after := #[], guard := none }) (v := ?pbv2) rfl (by kernel_rfl) (by kernel_rfl) (by kernel_rfl) (fun _ _ _ h => h) (Or.inl ⟨by rfl, ?pbh2⟩) (by assumption) ?pbr2
      case pbh2 => ((intro w hSw; (try dsimp only at hSw); go_simp); try with_reducible rfl)
      try simp only [Act.put, List.setIfInBounds_toArray, List.set_cons_zero, List.set_cons_succ]
      refine wpAnyH_take (i := 6) (oi := { dst := some 31, op := Op.fieldAddr 81 (Operand.tmp 5) 0, type := 0, pos := "ref.go:228", after := #[], guard := none }) (v := ?pbv6) rfl (by kernel_rfl) (by kernel_rfl) (by kernel_rfl) (fun _ _ _ h => h) (Or.inl ⟨by rfl, ?pbh6⟩) (by assumption) ?pbr6
      case pbh6 => ((intro w hSw; (try dsimp only at hSw); go_simp); try with_reducible rfl)
      try simp only [Act.put, List.setIfInBounds_toArray, List.set_cons_zero, List.set_cons_succ]
      refine wpAnyH_ready (rs := [1, 7]) (by kernel_rfl) (by simp) ?_
      refine AllReadyH.cons (o := { dst := some 26, op := Op.load 29 (Operand.tmp 25), type := 29, pos := "ref.go:228", after := #[{ on := 0, ground := Ground.data }], guard := none }) rfl (fun K hK => ?_) ?_
      ·go_simp; refine hK.out _ _ trivial (fun hHeld => ?_)
       clear hK K
       try simp only [Act.put, List.setIfInBounds_toArray, List.set_cons_zero, List.set_cons_succ]
       refine wpAnyH_take (i := 3) (oi := { dst := some 28, op := Op.indexAddr 29 (Operand.tmp 26) (Operand.tmp 27), type := 0, pos := "ref.go:228", after := #[{ on := 1, ground := Ground.data }, { on := 2, ground := Ground.data }], guard := none }) (v := ?pbav3) rfl (by kernel_rfl) (by kernel_rfl) (by kernel_rfl) (fun _ _ _ h => h) (Or.inl ⟨by rfl, ?pbah3⟩) (by assumption) ?pbar3
       case pbah3 => ((intro w hSw; (try dsimp only at hSw); go_simp); try with_reducible rfl)
       try simp only [Act.put, List.setIfInBounds_toArray, List.set_cons_zero, List.set_cons_succ]
       refine wpAnyH_take (i := 4) (oi := { dst := some 29, op := Op.fieldAddr 81 (Operand.tmp 28) 0, type := 0, pos := "ref.go:228", after := #[{ on := 3, ground := Ground.data }], guard := none }) (v := ?pbav4) rfl (by kernel_rfl) (by kernel_rfl) (by kernel_rfl) (fun _ _ _ h => h) (Or.inl ⟨by rfl, ?pbah4⟩) (by assumption) ?pbar4
       case pbah4 => ((intro w hSw; (try dsimp only at hSw); go_simp); try with_reducible rfl)
       try simp only [Act.put, List.setIfInBounds_toArray, List.set_cons_zero, List.set_cons_succ]
       refine wpAnyH_ready (rs := [5, 7]) (by kernel_rfl) (by simp) ?_
       refine AllReadyH.cons (o := { dst := some 30, op := Op.load 9 (Operand.tmp 29), type := 9, pos := "ref.go:228", after := #[{ on := 4, ground := Ground.data }], guard := none }) rfl (fun K hK => ?_) ?_
       ·go_simp; refine hK.out _ _ trivial (fun hHeld => ?_)
        clear hK K
        try simp only [Act.put, List.setIfInBounds_toArray, List.set_cons_zero, List.set_cons_succ]
        refine wpAnyH_ready (rs := [7]) (by kernel_rfl) (by simp) ?_
        refine AllReadyH.cons (o := { dst := some 32, op := Op.load 9 (Operand.tmp 31), type := 9, pos := "ref.go:228", after := #[{ on := 6, ground := Ground.data }], guard := none }) rfl (fun K hK => ?_) AllReadyH.nil
        go_simp; refine hK.out _ _ trivial (fun hHeld => ?_)
        clear hK K
        try simp only [Act.put, List.setIfInBounds_toArray, List.set_cons_zero, List.set_cons_succ]
        refine wpAnyH_take (i := 8) (oi := { dst := some 33, op := Op.binOp BinOp.eql 9 (Operand.tmp 30) (Operand.tmp 32) 9, type := 4, pos := "ref.go:228", after := #[{ on := 5, ground := Ground.data }, { on := 7, ground := Ground.data }], guard := none }) (v := ?pbaav8) rfl (by kernel_rfl) (by kernel_rfl) (by kernel_rfl) (fun _ _ _ h => h) (Or.inl ⟨by rfl, ?pbaah8⟩) (by assumption) ?pbaar8
        case pbaah8 => ((intro w hSw; (try dsimp only at hSw); go_simp); try with_reducible rfl)
        try simp only [Act.put, List.setIfInBounds_toArray, List.set_cons_zero, List.set_cons_succ]
        refine wpAnyH_done (by kernel_rfl) ?_ _
        go_wp2_with fail
        exact ⟨⟨j + 1, by omega, rfl, by go_num, HBY.out.trans (HBD.out.mono HBY.out.size), fun q hq hq2 => (by by_cases e : q = j; (subst e; exact HE.out); exact HNE.out q (by omega) hq2)⟩, by simp [intOf]; omega⟩
       refine AllReadyH.cons (o := { dst := some 32, op := Op.load 9 (Operand.tmp 31), type := 9, pos := "ref.go:228", after := #[{ on := 6, ground := Ground.data }], guard := none }) rfl (fun K hK => ?_) AllReadyH.nil
       go_simp; refine hK.out _ _ trivial (fun hHeld => ?_)
       clear hK K
       try simp only [Act.put, List.setIfInBounds_toArray, List.set_cons_zero, List.set_cons_succ]
       refine wpAnyH_ready (rs := [5]) (by kernel_rfl) (by simp) ?_
       refine AllReadyH.cons (o := { dst := some 30, op := Op.load 9 (Operand.tmp 29), type := 9, pos := "ref.go:228", after := #[{ on := 4, ground := Ground.data }], guard := none }) rfl (fun K hK => ?_) AllReadyH.nil
       go_simp; refine hK.out _ _ trivial (fun hHeld => ?_)
       clear hK K
       try simp only [Act.put, List.setIfInBounds_toArray, List.set_cons_zero, List.set_cons_succ]
       refine wpAnyH_take (i := 8) (oi := { dst := some 33, op := Op.binOp BinOp.eql 9 (Operand.tmp 30) (Operand.tmp 32) 9, type := 4, pos := "ref.go:228", after := #[{ on := 5, ground := Ground.data }, { on := 7, ground := Ground.data }], guard := none }) (v := ?pbabv8) rfl (by kernel_rfl) (by kernel_rfl) (by kernel_rfl) (fun _ _ _ h => h) (Or.inl ⟨by rfl, ?pbabh8⟩) (by assumption) ?pbabr8
       case pbabh8 => ((intro w hSw; (try dsimp only at hSw); go_simp); try with_reducible rfl)
       try simp only [Act.put, List.setIfInBounds_toArray, List.set_cons_zero, List.set_cons_succ]
       refine wpAnyH_done (by kernel_rfl) ?_ _
       go_wp2_with fail
       exact ⟨⟨j + 1, by omega, rfl, by go_num, HBY.out.trans (HBD.out.mono HBY.out.size), fun q hq hq2 => (by by_cases e : q = j; (subst e; exact HE.out); exact HNE.out q (by omega) hq2)⟩, by simp [intOf]; omega⟩
      refine AllReadyH.cons (o := { dst := some 32, op := Op.load 9 (Operand.tmp 31), type := 9, pos := "ref.go:228", after := #[{ on := 6, ground := Ground.data }], guard := none }) rfl (fun K hK => ?_) AllReadyH.nil
      go_simp; refine hK.out _ _ trivial (fun hHeld => ?_)
      clear hK K
      try simp only [Act.put, List.setIfInBounds_toArray, List.set_cons_zero, List.set_cons_succ]
      refine wpAnyH_ready (rs := [1]) (by kernel_rfl) (by simp) ?_
      refine AllReadyH.cons (o := { dst := some 26, op := Op.load 29 (Operand.tmp 25), type := 29, pos := "ref.go:228", after := #[{ on := 0, ground := Ground.data }], guard := none }) rfl (fun K hK => ?_) AllReadyH.nil
      go_simp; refine hK.out _ _ trivial (fun hHeld => ?_)
      clear hK K
      try simp only [Act.put, List.setIfInBounds_toArray, List.set_cons_zero, List.set_cons_succ]
      refine wpAnyH_take (i := 3) (oi := { dst := some 28, op := Op.indexAddr 29 (Operand.tmp 26) (Operand.tmp 27), type := 0, pos := "ref.go:228", after := #[{ on := 1, ground := Ground.data }, { on := 2, ground := Ground.data }], guard := none }) (v := ?pbbv3) rfl (by kernel_rfl) (by kernel_rfl) (by kernel_rfl) (fun _ _ _ h => h) (Or.inl ⟨by rfl, ?pbbh3⟩) (by assumption) ?pbbr3
      case pbbh3 => ((intro w hSw; (try dsimp only at hSw); go_simp); try with_reducible rfl)
      try simp only [Act.put, List.setIfInBounds_toArray, List.set_cons_zero, List.set_cons_succ]
      refine wpAnyH_take (i := 4) (oi := { dst := some 29, op := Op.fieldAddr 81 (Operand.tmp 28) 0, type := 0, pos := "ref.go:228", after := #[{ on := 3, ground := Ground.data }], guard := none }) (v := ?pbbv4) rfl (by kernel_rfl) (by kernel_rfl) (by kernel_rfl) (fun _ _ _ h => h) (Or.inl ⟨by rfl, ?pbbh4⟩) (by assumption) ?pbbr4
      case pbbh4 => ((intro w hSw; (try dsimp only at hSw); go_simp); try with_reducible rfl)
      try simp only [Act.put, List.setIfInBounds_toArray, List.set_cons_zero, List.set_cons_succ]
      refine wpAnyH_ready (rs := [5]) (by kernel_rfl) (by simp) ?_
      refine AllReadyH.cons (o := { dst := some 30, op := Op.load 9 (Operand.tmp 29), type := 9, pos := "ref.go:228", after := #[{ on := 4, ground := Ground.data }], guard := none }) rfl (fun K hK => ?_) AllReadyH.nil
      go_simp; refine hK.out _ _ trivial (fun hHeld => ?_)
      clear hK K
      try simp only [Act.put, List.setIfInBounds_toArray, List.set_cons_zero, List.set_cons_succ]
      refine wpAnyH_take (i := 8) (oi := { dst := some 33, op := Op.binOp BinOp.eql 9 (Operand.tmp 30) (Operand.tmp 32) 9, type := 4, pos := "ref.go:228", after := #[{ on := 5, ground := Ground.data }, { on := 7, ground := Ground.data }], guard := none }) (v := ?pbbv8) rfl (by kernel_rfl) (by kernel_rfl) (by kernel_rfl) (fun _ _ _ h => h) (Or.inl ⟨by rfl, ?pbbh8⟩) (by assumption) ?pbbr8
      case pbbh8 => ((intro w hSw; (try dsimp only at hSw); go_simp); try with_reducible rfl)
      try simp only [Act.put, List.setIfInBounds_toArray, List.set_cons_zero, List.set_cons_succ]
      refine wpAnyH_done (by kernel_rfl) ?_ _
      go_wp2_with fail
      exact ⟨⟨j + 1, by omega, rfl, by go_num, HBY.out.trans (HBD.out.mono HBY.out.size), fun q hq hq2 => (by by_cases e : q = j; (subst e; exact HE.out); exact HNE.out q (by omega) hq2)⟩, by simp [intOf]; omega⟩
    ·have hje : j = k := by omega
     subst hje
     have HD0 : Hid (dupsR ms (j + 1) = L) := by
      unfold Hid dupsR
      rw [HX.out]
      dsimp only
      rw [if_neg, ← HL.out]
      rw [List.any_eq_true]
      rintro ⟨y, hy, hyn⟩
      obtain ⟨q, hq, rfl⟩ := List.mem_take_iff_getElem.1 hy
      exact HNE.out q (by omega) (by omega) (by simpa using hyn)
     clear hby hne hiy
     go_wp2_with fail
     exact ⟨⟨j + 1, by omega, by go_num, by rw [HD0.out]; exact HIY.out⟩, by simp [intOf]; omega⟩
  ·have hke : k = NM := by omega
   subst hke
   clear hi hlr
   go_wp2_with fail
   go_loopw [3, 7] (fun v i wy => ∃ (j t : Nat), t = 64 + j ∧ j ≤ NP - 64 ∧ i = .int .i64 t ∧ FaI W ub (longR ps L j) v wy) (fun _ i _ => 10000064 - (intOf i).toNat)
   case atStart => exact ⟨0, 64, rfl, Nat.zero_le _, rfl, HI.out⟩
   case round =>
    rename World => wy
    obtain ⟨j, t, htj, hj, rfl, hi⟩ := hrel
    have hNl := longR_len ps L j
    obtain ⟨N, hN⟩ : ∃ N, N = longR ps L j := ⟨_, rfl⟩
    have HNN := hid hN
    rw [← hN] at hNl hi
    obtain ⟨np, nc, hv, hnr⟩ := hi.ex
    subst hv
    have HIN := hid hi
    obtain ⟨c0, c1⟩ := HBX.out _ hi.box
    by_cases hlt : t < NP
    ·have htI : (t : Int) < NP := by omega
     have htl : t < ps.length := by rw [← HNP.out]; exact hlt
     obtain ⟨wd, hwd⟩ : ∃ wd, wd = wy.drew := ⟨_, rfl⟩
     have hbd : Below wy.heap.size wy wd := by rw [hwd]; exact (Below.refl _ _).drew
     have hi9 := hi.below hbd
     have HI9 := hid hi9
     obtain ⟨d0, d1⟩ := HBX.out _ hi9.box
     have hpr := HPS.out.below hi9.b
     obtain ⟨pb, po, rfl, hpb, -⟩ := hpr.at (by rw [flat_len PtR.cells 4 (fun _ => rfl)]; omega)
     obtain ⟨y0, y1, y2, y3⟩ := pt_ex hpr t htl
     have HY : Hid (longR ps L (j + 1) = putP ⟨ps[t].file, ps[t].line, 3⟩ N) := by
      unfold Hid longR
      rw [show 64 + j = t from htj.symm, List.getElem?_eq_getElem htl, ← hN]
     generalize ps[t] = y at *
     have HPU := hid (fput_any np nc N ⟨y.file, y.line, 3⟩ wd (hnr.below hbd) (by omega))
     dsimp only at HPU
     have HT := hid htj
     have hj2 : j + 1 ≤ NP - 64 := by omega
     clear hi hnr hN hbd hi9 hpr y0 y3 htj
     go_wp2_with fail
     go_upto_region 14 with (fail)
     refine wp_region_held_drew (S := fun _ => True) (by kernel_rfl) trivial (fun hHeld => ?_)
     rw [← hwd] at *
     refine wpAnyH_take (i := 0) (oi := { dst := some 48, op := Op.move (Operand.tmp 3), type := 33, pos := "ref.go:235", after := #[], guard := none }) (v := ?pcv0) rfl (by kernel_rfl) (by kernel_rfl) (by kernel_rfl) (fun _ _ _ h => h) (Or.inl ⟨by rfl, ?pch0⟩) (by assumption) ?pcr0
     case pch0 => ((intro w hSw; (try dsimp only at hSw); go_simp); try with_reducible rfl)
     try simp only [Act.put, List.setIfInBounds_toArray, List.set_cons_zero, List.set_cons_succ]
     refine wpAnyH_take (i := 1) (oi := { dst := some 49, op := Op.fieldAddr 32 (Operand.tmp 1) 0, type := 0, pos := "ref.go:235", after := #[], guard := none }) (v := ?pcv1) rfl (by kernel_rfl) (by kernel_rfl) (by kernel_rfl) (fun _ _ _ h => h) (Or.inl ⟨by rfl, ?pch1⟩) (by assumption) ?pcr1
     case pch1 => ((intro w hSw; (try dsimp only at hSw); go_simp); try with_reducible rfl)
     try simp only [Act.put, List.setIfInBounds_toArray, List.set_cons_zero, List.set_cons_succ]
     refine wpAnyH_take (i := 3) (oi := { dst := some 51, op := Op.move (Operand.tmp 7), type := 3, pos := "ref.go:235", after := #[], guard := none }) (v := ?pcv3) rfl (by kernel_rfl) (by kernel_rfl) (by kernel_rfl) (fun _ _ _ h => h) (Or.inl ⟨by rfl, ?pch3⟩) (by assumption) ?pcr3
     case pch3 => ((intro w hSw; (try dsimp only at hSw); go_simp); try with_reducible rfl)
     try simp only [Act.put, List.setIfInBounds_toArray, List.set_cons_zero, List.set_cons_succ]
     refine wpAnyH_take (i := 7) (oi := { dst := some 55, op := Op.fieldAddr 32 (Operand.tmp 1) 0, type := 0, pos := "ref.go:235", after := #[], guard := none }) (v := ?pcv7) rfl (by kernel_rfl) (by kernel_rfl) (by kernel_rfl) (fun _ _ _ h => h) (Or.inl ⟨by rfl, ?pch7⟩) (by assumption) ?pcr7
     case pch7 => ((intro w hSw; (try dsimp only at hSw); go_simp); try with_reducible rfl)
     try simp only [Act.put, List.setIfInBounds_toArray, List.set_cons_zero, List.set_cons_succ]
     refine wpAnyH_take (i := 9) (oi := { dst := some 57, op := Op.move (Operand.tmp 7), type := 3, pos := "ref.go:235", after := #[], guard := none }) (v := ?pcv9) rfl (by kernel_rfl) (by kernel_rfl) (by kernel_rfl) (fun _ _ _ h => h) (Or.inl ⟨by rfl, ?pch9⟩) (by assumption) ?pcr9
     case pch9 => ((intro w hSw; (try dsimp only at hSw); go_simp); try with_reducible rfl)
     try simp only [Act.put, List.setIfInBounds_toArray, List.set_cons_zero, List.set_cons_succ]
     refine wpAnyH_ready (rs := [2, 8]) (by kernel_rfl) (by simp) ?_
     refine AllReadyH.cons (o := { dst := some 50, op := Op.load 28 (Operand.tmp 49), type := 28, pos := "ref.go:235", after := #[{ on := 1, ground := Ground.data }], guard := none }) rfl (fun K hK => ?_) ?_
     ·go_simp; refine hK.out _ _ trivial (fun hHeld => ?_)
      clear hK K
      try simp only [Act.put, List.setIfInBounds_toArray, List.set_cons_zero, List.set_cons_succ]
      refine wpAnyH_take (i := 4) (oi := { dst := some 52, op := Op.indexAddr 28 (Operand.tmp 50) (Operand.tmp 51), type := 0, pos := "ref.go:235", after := #[{ on := 2, ground := Ground.data }, { on := 3, ground := Ground.data }], guard := none }) (v := ?pcav4) rfl (by kernel_rfl) (by kernel_rfl) (by kernel_rfl) (fun _ _ _ h => h) (Or.inl ⟨by rfl, ?pcah4⟩) (by assumption) ?pcar4
      case pcah4 => ((intro w hSw; (try dsimp only at hSw); go_simp); try with_reducible rfl)
      try simp only [Act.put, List.setIfInBounds_toArray, List.set_cons_zero, List.set_cons_succ]
      refine wpAnyH_take (i := 5) (oi := { dst := some 53, op := Op.fieldAddr 50 (Operand.tmp 52) 1, type := 0, pos := "ref.go:235", after := #[{ on := 4, ground := Ground.data }], guard := none }) (v := ?pcav5) rfl (by kernel_rfl) (by kernel_rfl) (by kernel_rfl) (fun _ _ _ h => h) (Or.inl ⟨by rfl, ?pcah5⟩) (by assumption) ?pcar5
      case pcah5 => ((intro w hSw; (try dsimp only at hSw); go_simp); try with_reducible rfl)
      try simp only [Act.put, List.setIfInBounds_toArray, List.set_cons_zero, List.set_cons_succ]
      refine wpAnyH_ready (rs := [6, 8]) (by kernel_rfl) (by simp) ?_
      refine AllReadyH.cons (o := { dst := some 54, op := Op.load 3 (Operand.tmp 53), type := 3, pos := "ref.go:235", after := #[{ on := 5, ground := Ground.data }], guard := none }) rfl (fun K hK => ?_) ?_
      ·go_simp; refine hK.out _ _ trivial (fun hHeld => ?_)
       clear hK K
       try simp only [Act.put, List.setIfInBounds_toArray, List.set_cons_zero, List.set_cons_succ]
       refine wpAnyH_ready (rs := [8]) (by kernel_rfl) (by simp) ?_
       refine AllReadyH.cons (o := { dst := some 56, op := Op.load 28 (Operand.tmp 55), type := 28, pos := "ref.go:235", after := #[{ on := 7, ground := Ground.data }], guard := none }) rfl (fun K hK => ?_) AllReadyH.nil
       go_simp; refine hK.out _ _ trivial (fun hHeld => ?_)
       clear hK K
       try simp only [Act.put, List.setIfInBounds_toArray, List.set_cons_zero, List.set_cons_succ]
       refine wpAnyH_take (i := 10) (oi := { dst := some 58, op := Op.indexAddr 28 (Operand.tmp 56) (Operand.tmp 57), type := 0, pos := "ref.go:235", after := #[{ on := 8, ground := Ground.data }, { on := 9, ground := Ground.data }], guard := none }) (v := ?pcaav10) rfl (by kernel_rfl) (by kernel_rfl) (by kernel_rfl) (fun _ _ _ h => h) (Or.inl ⟨by rfl, ?pcaah10⟩) (by assumption) ?pcaar10
       case pcaah10 => ((intro w hSw; (try dsimp only at hSw); go_simp); try with_reducible rfl)
       try simp only [Act.put, List.setIfInBounds_toArray, List.set_cons_zero, List.set_cons_succ]
       refine wpAnyH_take (i := 11) (oi := { dst := some 59, op := Op.fieldAddr 50 (Operand.tmp 58) 2, type := 0, pos := "ref.go:235", after := #[{ on := 10, ground := Ground.data }], guard := none }) (v := ?pcaav11) rfl (by kernel_rfl) (by kernel_rfl) (by kernel_rfl) (fun _ _ _ h => h) (Or.inl ⟨by rfl, ?pcaah11⟩) (by assumption) ?pcaar11
       case pcaah11 => ((intro w hSw; (try dsimp only at hSw); go_simp); try with_reducible rfl)
       try simp only [Act.put, List.setIfInBounds_toArray, List.set_cons_zero, List.set_cons_succ]
       refine wpAnyH_ready (rs := [12]) (by kernel_rfl) (by simp) ?_
       refine AllReadyH.cons (o := { dst := some 60, op := Op.load 3 (Operand.tmp 59), type := 3, pos := "ref.go:235", after := #[{ on := 11, ground := Ground.data }], guard := none }) rfl (fun K hK => ?_) AllReadyH.nil
       go_simp; refine hK.out _ _ trivial (fun hHeld => ?_)
       clear hK K
       try simp only [Act.put, List.setIfInBounds_toArray, List.set_cons_zero, List.set_cons_succ]
       refine wpAnyH_take (i := 13) (oi := { dst := some 61, op := Op.build 42 #[(0, Operand.tmp 54), (1, Operand.tmp 60), (2, Operand.const (Value.int IntKind.i64 3))], type := 42, pos := "ref.go:235", after := #[{ on := 6, ground := Ground.data }, { on := 12, ground := Ground.data }], guard := none }) (v := ?pcaav13) rfl (by kernel_rfl) (by kernel_rfl) (by kernel_rfl) (fun _ _ _ h => h) (Or.inl ⟨by rfl, ?pcaah13⟩) (by assumption) ?pcaar13
       case pcaah13 => ((intro w hSw; (try dsimp only at hSw); go_simp); try with_reducible rfl)
       try simp only [Act.put, List.setIfInBounds_toArray, List.set_cons_zero, List.set_cons_succ]
       refine wpAnyH_ready (rs := [14]) (by kernel_rfl) (by simp) ?_
       refine AllReadyH.cons (o := { dst := some 62, op := Op.call { callee := Callee.value (Operand.func 35), args := #[Operand.tmp 48, Operand.tmp 61], argTypes := #[33, 42] }, type := 33, pos := "ref.go:235", after := #[{ on := 0, ground := Ground.data }, { on := 13, ground := Ground.data }], guard := none }) rfl (fun K hK => ?_) AllReadyH.nil
       go_simp; go_at_call 35; (with_reducible refine HPU.out.mono ?_); rintro e w2 hpu; obtain ⟨v2, rfl, -⟩ := hpu.ex; have HF := hid (HI9.out.put hpu); clear hpu; refine hK.out _ _ trivial (fun hHeld => ?_)
       clear hK K
       try simp only [Act.put, List.setIfInBounds_toArray, List.set_cons_zero, List.set_cons_succ]
       refine wpAnyH_take (i := 15) (oi := { dst := some 3, op := Op.assign (Operand.tmp 62), type := 33, pos := "ref.go:235", after := #[{ on := 14, ground := Ground.data }, { on := 14, ground := Ground.chain }, { on := 0, ground := Ground.phase }, { on := 1, ground := Ground.phase }, { on := 2, ground := Ground.phase }, { on := 3, ground := Ground.phase }, { on := 4, ground := Ground.phase }, { on := 5, ground := Ground.phase }, { on := 6, ground := Ground.phase }, { on := 7, ground := Ground.phase }, { on := 8, ground := Ground.phase }, { on := 9, ground := Ground.phase }, { on := 10, ground := Ground.phase }, { on := 11, ground := Ground.phase }, { on := 12, ground := Ground.phase }, { on := 13, ground := Ground.phase }, { on := 14, ground := Ground.phase }], guard := none }) (v := ?pcaav15) rfl (by kernel_rfl) (by kernel_rfl) (by kernel_rfl) (fun _ _ _ h => h) (Or.inl ⟨by rfl, ?pcaah15⟩) (by assumption) ?pcaar15
       case pcaah15 => ((intro w hSw; (try dsimp only at hSw); go_simp); try with_reducible rfl)
       try simp only [Act.put, List.setIfInBounds_toArray, List.set_cons_zero, List.set_cons_succ]
       refine wpAnyH_done (by kernel_rfl) ?_ _
       go_wp2_with fail
       exact ⟨⟨j + 1, t + 1, (by have := HT.out; omega), hj2, by go_num, by rw [HY.out]; exact HF.out⟩, by simp [intOf]; omega⟩
      refine AllReadyH.cons (o := { dst := some 56, op := Op.load 28 (Operand.tmp 55), type := 28, pos := "ref.go:235", after := #[{ on := 7, ground := Ground.data }], guard := none }) rfl (fun K hK => ?_) AllReadyH.nil
      go_simp; refine hK.out _ _ trivial (fun hHeld => ?_)
      clear hK K
      try simp only [Act.put, List.setIfInBounds_toArray, List.set_cons_zero, List.set_cons_succ]
      refine wpAnyH_take (i := 10) (oi := { dst := some 58, op := Op.indexAddr 28 (Operand.tmp 56) (Operand.tmp 57), type := 0, pos := "ref.go:235", after := #[{ on := 8, ground := Ground.data }, { on := 9, ground := Ground.data }], guard := none }) (v := ?pcabv10) rfl (by kernel_rfl) (by kernel_rfl) (by kernel_rfl) (fun _ _ _ h => h) (Or.inl ⟨by rfl, ?pcabh10⟩) (by assumption) ?pcabr10
      case pcabh10 => ((intro w hSw; (try dsimp only at hSw); go_simp); try with_reducible rfl)
      try simp only [Act.put, List.setIfInBounds_toArray, List.set_cons_zero, List.set_cons_succ]
      refine wpAnyH_take (i := 11) (oi := { dst := some 59, op := Op.fieldAddr 50 (Operand.tmp 58) 2, type := 0, pos := "ref.go:235", after := #[{ on := 10, ground := Ground.data }], guard := none }) (v := ?pcabv11) rfl (by kernel_rfl) (by kernel_rfl) (by kernel_rfl) (fun _ _ _ h => h) (Or.inl ⟨by rfl, ?pcabh11⟩) (by assumption) ?pcabr11
      case pcabh11 => ((intro w hSw; (try dsimp only at hSw); go_simp); try with_reducible rfl)
      try simp only [Act.put, List.setIfInBounds_toArray, List.set_cons_zero, List.set_cons_succ]
      refine wpAnyH_ready (rs := [6, 12]) (by kernel_rfl) (by simp) ?_
      refine AllReadyH.cons (o := { dst := some 54, op := Op.load 3 (Operand.tmp 53), type := 3, pos := "ref.go:235", after := #[{ on := 5, ground := Ground.data }], guard := none }) rfl (fun K hK => ?_) ?_
      ·go_simp; refine hK.out _ _ trivial (fun hHeld => ?_)
       clear hK K
       try simp only [Act.put, List.setIfInBounds_toArray, List.set_cons_zero, List.set_cons_succ]
       refine wpAnyH_ready (rs := [12]) (by kernel_rfl) (by simp) ?_
       refine AllReadyH.cons (o := { dst := some 60, op := Op.load 3 (Operand.tmp 59), type := 3, pos := "ref.go:235", after := #[{ on := 11, ground := Ground.data }], guard := none }) rfl (fun K hK => ?_) AllReadyH.nil
       go_simp; refine hK.out _ _ trivial (fun hHeld => ?_)
       clear hK K
       try simp only [Act.put, List.setIfInBounds_toArray, List.set_cons_zero, List.set_cons_succ]
       refine wpAnyH_take (i := 13) (oi := { dst := some 61, op := Op.build 42 #[(0, Operand.tmp 54), (1, Operand.tmp 60), (2, Operand.const (Value.int IntKind.i64 3))], type := 42, pos := "ref.go:235", after := #[{ on := 6, ground := Ground.data }, { on := 12, ground := Ground.data }], guard := none }) (v := ?pcabav13) rfl (by kernel_rfl) (by kernel_rfl) (by kernel_rfl) (fun _ _ _ h => h) (Or.inl ⟨by rfl, ?pcabah13⟩) (by assumption) ?pcabar13
       case pcabah13 => ((intro w hSw; (try dsimp only at hSw); go_simp); try with_reducible rfl)
       try simp only [Act.put, List.setIfInBounds_toArray, List.set_cons_zero, List.set_cons_succ]
       refine wpAnyH_ready (rs := [14]) (by kernel_rfl) (by simp) ?_
       refine AllReadyH.cons (o := { dst := some 62, op := Op.call { callee := Callee.value (Operand.func 35), args := #[Operand.tmp 48, Operand.tmp 61], argTypes := #[33, 42] }, type := 33, pos := "ref.go:235", after := #[{ on := 0, ground := Ground.data }, { on := 13, ground := Ground.data }], guard := none }) rfl (fun K hK => ?_) AllReadyH.nil
       go_simp; go_at_call 35; (with_reducible refine HPU.out.mono ?_); rintro e w2 hpu; obtain ⟨v2, rfl, -⟩ := hpu.ex; have HF := hid (HI9.out.put hpu); clear hpu; refine hK.out _ _ trivial (fun hHeld => ?_)
       clear hK K
       try simp only [Act.put, List.setIfInBounds_toArray, List.set_cons_zero, List.set_cons_succ]
       refine wpAnyH_take (i := 15) (oi := { dst := some 3, op := Op.assign (Operand.tmp 62), type := 33, pos := "ref.go:235", after := #[{ on := 14, ground := Ground.data }, { on := 14, ground := Ground.chain }, { on := 0, ground := Ground.phase }, { on := 1, ground := Ground.phase }, { on := 2, ground := Ground.phase }, { on := 3, ground := Ground.phase }, { on := 4, ground := Ground.phase }, { on := 5, ground := Ground.phase }, { on := 6, ground := Ground.phase }, { on := 7, ground := Ground.phase }, { on := 8, ground := Ground.phase }, { on := 9, ground := Ground.phase }, { on := 10, ground := Ground.phase }, { on := 11, ground := Ground.phase }, { on := 12, ground := Ground.phase }, { on := 13, ground := Ground.phase }, { on := 14, ground := Ground.phase }], guard := none }) (v := ?pcabav15) rfl (by kernel_rfl) (by kernel_rfl) (by kernel_rfl) (fun _ _ _ h => h) (Or.inl ⟨by rfl, ?pcabah15⟩) (by assumption) ?pcabar15
       case pcabah15 => ((intro w hSw; (try dsimp only at hSw); go_simp); try with_reducible rfl)
       try simp only [Act.put, List.setIfInBounds_toArray, List.set_cons_zero, List.set_cons_succ]
       refine wpAnyH_done (by kernel_rfl) ?_ _
       go_wp2_with fail
       exact ⟨⟨j + 1, t + 1, (by have := HT.out; omega), hj2, by go_num, by rw [HY.out]; exact HF.out⟩, by simp [intOf]; omega⟩
      refine AllReadyH.cons (o := { dst := some 60, op := Op.load 3 (Operand.tmp 59), type := 3, pos := "ref.go:235", after := #[{ on := 11, ground := Ground.data }], guard := none }) rfl (fun K hK => ?_) AllReadyH.nil
      go_simp; refine hK.out _ _ trivial (fun hHeld => ?_)
      clear hK K
      try simp only [Act.put, List.setIfInBounds_toArray, List.set_cons_zero, List.set_cons_succ]
      refine wpAnyH_ready (rs := [6]) (by kernel_rfl) (by simp) ?_
      refine AllReadyH.cons (o := { dst := some 54, op := Op.load 3 (Operand.tmp 53), type := 3, pos := "ref.go:235", after := #[{ on := 5, ground := Ground.data }], guard := none }) rfl (fun K hK => ?_) AllReadyH.nil
      go_simp; refine hK.out _ _ trivial (fun hHeld => ?_)
      clear hK K
      try simp only [Act.put, List.setIfInBounds_toArray, List.set_cons_zero, List.set_cons_succ]
      refine wpAnyH_take (i := 13) (oi := { dst := some 61, op := Op.build 42 #[(0, Operand.tmp 54), (1, Operand.tmp 60), (2, Operand.const (Value.int IntKind.i64 3))], type := 42, pos := "ref.go:235", after := #[{ on := 6, ground := Ground.data }, { on := 12, ground := Ground.data }], guard := none }) (v := ?pcabbv13) rfl (by kernel_rfl) (by kernel_rfl) (by kernel_rfl) (fun _ _ _ h => h) (Or.inl ⟨by rfl, ?pcabbh13⟩) (by assumption) ?pcabbr13
      case pcabbh13 => ((intro w hSw; (try dsimp only at hSw); go_simp); try with_reducible rfl)
      try simp only [Act.put, List.setIfInBounds_toArray, List.set_cons_zero, List.set_cons_succ]
      refine wpAnyH_ready (rs := [14]) (by kernel_rfl) (by simp) ?_
      refine AllReadyH.cons (o := { dst := some 62, op := Op.call { callee := Callee.value (Operand.func 35), args := #[Operand.tmp 48, Operand.tmp 61], argTypes := #[33, 42] }, type := 33, pos := "ref.go:235", after := #[{ on := 0, ground := Ground.data }, { on := 13, ground := Ground.data }], guard := none }) rfl (fun K hK => ?_) AllReadyH.nil
      go_simp; go_at_call 35; (with_reducible refine HPU.out.mono ?_); rintro e w2 hpu; obtain ⟨v2, rfl, -⟩ := hpu.ex; have HF := hid (HI9.out.put hpu); clear hpu; refine hK.out _ _ trivial (fun hHeld => ?_)
      clear hK K
      try simp only [Act.put, List.setIfInBounds_toArray, List.set_cons_zero, List.set_cons_succ]
      refine wpAnyH_take (i := 15) (oi := { dst := some 3, op := Op.assign (Operand.tmp 62), type := 33, pos := "ref.go:235", after := #[{ on := 14, ground := Ground.data }, { on := 14, ground := Ground.chain }, { on := 0, ground := Ground.phase }, { on := 1, ground := Ground.phase }, { on := 2, ground := Ground.phase }, { on := 3, ground := Ground.phase }, { on := 4, ground := Ground.phase }, { on := 5, ground := Ground.phase }, { on := 6, ground := Ground.phase }, { on := 7, ground := Ground.phase }, { on := 8, ground := Ground.phase }, { on := 9, ground := Ground.phase }, { on := 10, ground := Ground.phase }, { on := 11, ground := Ground.phase }, { on := 12, ground := Ground.phase }, { on := 13, ground := Ground.phase }, { on := 14, ground := Ground.phase }], guard := none }) (v := ?pcabbv15) rfl (by kernel_rfl) (by kernel_rfl) (by kernel_rfl) (fun _ _ _ h => h) (Or.inl ⟨by rfl, ?pcabbh15⟩) (by assumption) ?pcabbr15
      case pcabbh15 => ((intro w hSw; (try dsimp only at hSw); go_simp); try with_reducible rfl)
      try simp only [Act.put, List.setIfInBounds_toArray, List.set_cons_zero, List.set_cons_succ]
      refine wpAnyH_done (by kernel_rfl) ?_ _
      go_wp2_with fail
      exact ⟨⟨j + 1, t + 1, (by have := HT.out; omega), hj2, by go_num, by rw [HY.out]; exact HF.out⟩, by simp [intOf]; omega⟩
     refine AllReadyH.cons (o := { dst := some 56, op := Op.load 28 (Operand.tmp 55), type := 28, pos := "ref.go:235", after := #[{ on := 7, ground := Ground.data }], guard := none }) rfl (fun K hK => ?_) AllReadyH.nil
     go_simp; refine hK.out _ _ trivial (fun hHeld => ?_)
     clear hK K
     try simp only [Act.put, List.setIfInBounds_toArray, List.set_cons_zero, List.set_cons_succ]
     refine wpAnyH_take (i := 10) (oi := { dst := some 58, op := Op.indexAddr 28 (Operand.tmp 56) (Operand.tmp 57), type := 0, pos := "ref.go:235", after := #[{ on := 8, ground := Ground.data }, { on := 9, ground := Ground.data }], guard := none }) (v := ?pcbv10) rfl (by kernel_rfl) (by kernel_rfl) (by kernel_rfl) (fun _ _ _ h => h) (Or.inl ⟨by rfl, ?pcbh10⟩) (by assumption) ?pcbr10
     case pcbh10 => ((intro w hSw; (try dsimp only at hSw); go_simp); try with_reducible rfl)
     try simp only [Act.put, List.setIfInBounds_toArray, List.set_cons_zero, List.set_cons_succ]
     refine wpAnyH_take (i := 11) (oi := { dst := some 59, op := Op.fieldAddr 50 (Operand.tmp 58) 2, type := 0, pos := "ref.go:235", after := #[{ on := 10, ground := Ground.data }], guard := none }) (v := ?pcbv11) rfl (by kernel_rfl) (by kernel_rfl) (by kernel_rfl) (fun _ _ _ h => h) (Or.inl ⟨by rfl, ?pcbh11⟩) (by assumption) ?pcbr11
     case pcbh11 => ((intro w hSw; (try dsimp only at hSw); go_simp); try with_reducible rfl)
     try simp only [Act.put, List.setIfInBounds_toArray, List.set_cons_zero, List.set_cons_succ]
     refine wpAnyH_ready (rs := [2, 12]) (by kernel_rfl) (by simp) ?_
     refine AllReadyH.cons (o := { dst := some 50, op := Op.load 28 (Operand.tmp 49), type := 28, pos := "ref.go:235", after := #[{ on := 1, ground := Ground.data }], guard := none }) rfl (fun K hK => ?_) ?_
     ·go_simp; refine hK.out _ _ trivial (fun hHeld => ?_)
      clear hK K
      try simp only [Act.put, List.setIfInBounds_toArray, List.set_cons_zero, List.set_cons_succ]
      refine wpAnyH_take (i := 4) (oi := { dst := some 52, op := Op.indexAddr 28 (Operand.tmp 50) (Operand.tmp 51), type := 0, pos := "ref.go:235", after := #[{ on := 2, ground := Ground.data }, { on := 3, ground := Ground.data }], guard := none }) (v := ?pcbav4) rfl (by kernel_rfl) (by kernel_rfl) (by kernel_rfl) (fun _ _ _ h => h) (Or.inl ⟨by rfl, ?pcbah4⟩) (by assumption) ?pcbar4
      case pcbah4 => ((intro w hSw; (try dsimp only at hSw); go_simp); try with_reducible rfl)
      try simp only [Act.put, List.setIfInBounds_toArray, List.set_cons_zero, List.set_cons_succ]
      refine wpAnyH_take (i := 5) (oi := { dst := some 53, op := Op.fieldAddr 50 (Operand.tmp 52) 1, type := 0, pos := "ref.go:235", after := #[{ on := 4, ground := Ground.data }], guard := none }) (v := ?pcbav5) rfl (by kernel_rfl) (by kernel_rfl) (by kernel_rfl) (fun _ _ _ h => h) (Or.inl ⟨by rfl, ?pcbah5⟩) (by assumption) ?pcbar5
      case pcbah5 => ((intro w hSw; (try dsimp only at hSw); go_simp); try with_reducible rfl)
      try simp only [Act.put, List.setIfInBounds_toArray, List.set_cons_zero, List.set_cons_succ]
      refine wpAnyH_ready (rs := [6, 12]) (by kernel_rfl) (by simp) ?_
      refine AllReadyH.cons (o := { dst := some 54, op := Op.load 3 (Operand.tmp 53), type := 3, pos := "ref.go:235", after := #[{ on := 5, ground := Ground.data }], guard := none }) rfl (fun K hK => ?_) ?_
      ·go_simp; refine hK.out _ _ trivial (fun hHeld => ?_)
       clear hK K
       try simp only [Act.put, List.setIfInBounds_toArray, List.set_cons_zero, List.set_cons_succ]
       refine wpAnyH_ready (rs := [12]) (by kernel_rfl) (by simp) ?_
       refine AllReadyH.cons (o := { dst := some 60, op := Op.load 3 (Operand.tmp 59), type := 3, pos := "ref.go:235", after := #[{ on := 11, ground := Ground.data }], guard := none }) rfl (fun K hK => ?_) AllReadyH.nil
       go_simp; refine hK.out _ _ trivial (fun hHeld => ?_)
       clear hK K
       try simp only [Act.put, List.setIfInBounds_toArray, List.set_cons_zero, List.set_cons_succ]
       refine wpAnyH_take (i := 13) (oi := { dst := some 61, op := Op.build 42 #[(0, Operand.tmp 54), (1, Operand.tmp 60), (2, Operand.const (Value.int IntKind.i64 3))], type := 42, pos := "ref.go:235", after := #[{ on := 6, ground := Ground.data }, { on := 12, ground := Ground.data }], guard := none }) (v := ?pcbaav13) rfl (by kernel_rfl) (by kernel_rfl) (by kernel_rfl) (fun _ _ _ h => h) (Or.inl ⟨by rfl, ?pcbaah13⟩) (by assumption) ?pcbaar13
       case pcbaah13 => ((intro w hSw; (try dsimp only at hSw); go_simp); try with_reducible rfl)
       try simp only [Act.put, List.setIfInBounds_toArray, List.set_cons_zero, List.set_cons_succ]
       refine wpAnyH_ready (rs := [14]) (by kernel_rfl) (by simp) ?_
       refine AllReadyH.cons (o := { dst := some 62, op := Op.call { callee := Callee.value (Operand.func 35), args := #[Operand.tmp 48, Operand.tmp 61], argTypes := #[33, 42] }, type := 33, pos := "ref.go:235", after := #[{ on := 0, ground := Ground.data }, { on := 13, ground := Ground.data }], guard := none }) rfl (fun K hK => ?_) AllReadyH.nil
       go_simp; go_at_call 35; (with_reducible refine HPU.out.mono ?_); rintro e w2 hpu; obtain ⟨v2, rfl, -⟩ := hpu.ex; have HF := hid (HI9.out.put hpu); clear hpu; refine hK.out _ _ trivial (fun hHeld => ?_)
       clear hK K
       try simp only [Act.put, List.setIfInBounds_toArray, List.set_cons_zero, List.set_cons_succ]
       refine wpAnyH_take (i := 15) (oi := { dst := some 3, op := Op.assign (Operand.tmp 62), type := 33, pos := "ref.go:235", after := #[{ on := 14, ground := Ground.data }, { on := 14, ground := Ground.chain }, { on := 0, ground := Ground.phase }, { on := 1, ground := Ground.phase }, { on := 2, ground := Ground.phase }, { on := 3, ground := Ground.phase }, { on := 4, ground := Ground.phase }, { on := 5, ground := Ground.phase }, { on := 6, ground := Ground.phase }, { on := 7, ground := Ground.phase }, { on := 8, ground := Ground.phase }, { on := 9, ground := Ground.phase }, { on := 10, ground := Ground.phase }, { on := 11, ground := Ground.phase }, { on := 12, ground := Ground.phase }, { on := 13, ground := Ground.phase }, { on := 14, ground := Ground.phase }], guard := none }) (v := ?pcbaav15) rfl (by kernel_rfl) (by kernel_rfl) (by kernel_rfl) (fun _ _ _ h => h) (Or.inl ⟨by rfl, ?pcbaah15⟩) (by assumption) ?pcbaar15
       case pcbaah15 => ((intro w hSw; (try dsimp only at hSw); go_simp); try with_reducible rfl)
       try simp only [Act.put, List.setIfInBounds_toArray, List.set_cons_zero, List.set_cons_succ]
       refine wpAnyH_done (by kernel_rfl) ?_ _
       go_wp2_with fail
       exact ⟨⟨j + 1, t + 1, (by have := HT.out; omega), hj2, by go_num, by rw [HY.out]; exact HF.out⟩, by simp [intOf]; omega⟩
      refine AllReadyH.cons (o := { dst := some 60, op := Op.load 3 (Operand.tmp 59), type := 3, pos := "ref.go:235", after := #[{ on := 11, ground := Ground.data }], guard := none }) rfl (fun K hK => ?_) AllReadyH.nil
      go_simp; refine hK.out _ _ trivial (fun hHeld => ?_)
      clear hK K
      try simp only [Act.put, List.setIfInBounds_toArray, List.set_cons_zero, List.set_cons_succ]
      refine wpAnyH_ready (rs := [6]) (by kernel_rfl) (by simp) ?_
      refine AllReadyH.cons (o := { dst := some 54, op := Op.load 3 (Operand.tmp 53), type := 3, pos := "ref.go:235", after := #[{ on := 5, ground := Ground.data }], guard := none }) rfl (fun K hK => ?_) AllReadyH.nil
      go_simp; refine hK.out _ _ trivial (fun hHeld => ?_)
      clear hK K
      try simp only [Act.put, List.setIfInBounds_toArray, List.set_cons_zero, List.set_cons_succ]
      refine wpAnyH_take (i := 13) (oi := { dst := some 61, op := Op.build 42 #[(0, Operand.tmp 54), (1, Operand.tmp 60), (2, Operand.const (Value.int IntKind.i64 3))], type := 42, pos := "ref.go:235", after := #[{ on := 6, ground := Ground.data }, { on := 12, ground := Ground.data }], guard := none }) (v := ?pcbabv13) rfl (by kernel_rfl) (by kernel_rfl) (by kernel_rfl) (fun _ _ _ h => h) (Or.inl ⟨by rfl, ?pcbabh13⟩) (by assumption) ?pcbabr13
      case pcbabh13 => ((intro w hSw; (try dsimp only at hSw); go_simp); try with_reducible rfl)
      try simp only [Act.put, List.setIfInBounds_toArray, List.set_cons_zero, List.set_cons_succ]
      refine wpAnyH_ready (rs := [14]) (by kernel_rfl) (by simp) ?_
      refine AllReadyH.cons (o := { dst := some 62, op := Op.call { callee := Callee.value (Operand.func 35), args := #[Operand.tmp 48, Operand.tmp 61], argTypes := #[33, 42] }, type := 33, pos := "ref.go:235", after := #[{ on := 0, ground := Ground.data }, { on := 13, ground := Ground.data }], guard := none }) rfl (fun K hK => ?_) AllReadyH.nil
      go_simp; go_at_call 35; (with_reducible refine HPU.out.mono ?_); rintro e w2 hpu; obtain ⟨v2, rfl, -⟩ := hpu.ex; have HF := hid (HI9.out.put hpu); clear hpu; refine hK.out _ _ trivial (fun hHeld => ?_)
      clear hK K
      try simp only [Act.put, List.setIfInBounds_toArray, List.set_cons_zero, List.set_cons_succ]
      refine wpAnyH_take (i := 15) (oi := { dst := some 3, op := Op.assign (Operand.tmp 62), type := 33, pos := "ref.go:235", after := #[{ on := 14, ground := Ground.data }, { on := 14, ground := Ground.chain }, { on := 0, ground := Ground.phase }, { on := 1, ground := Ground.phase }, { on := 2, ground := Ground.phase }, { on := 3, ground := Ground.phase }, { on := 4, ground := Ground.phase }, { on := 5, ground := Ground.phase }, { on := 6, ground := Ground.phase }, { on := 7, ground := Ground.phase }, { on := 8, ground := Ground.phase }, { on := 9, ground := Ground.phase }, { on := 10, ground := Ground.phase }, { on := 11, ground := Ground.phase }, { on := 12, ground := Ground.phase }, { on := 13, ground := Ground.phase }, { on := 14, ground := Ground.phase }], guard := none }) (v := ?pcbabv15) rfl (by kernel_rfl) (by kernel_rfl) (by kernel_rfl) (fun _ _ _ h => h) (Or.inl ⟨by rfl, ?pcbabh15⟩) (by assumption) ?pcbabr15
      case pcbabh15 => ((intro w hSw; (try dsimp only at hSw); go_simp); try with_reducible rfl)
      try simp only [Act.put, List.setIfInBounds_toArray, List.set_cons_zero, List.set_cons_succ]
      refine wpAnyH_done (by kernel_rfl) ?_ _
      go_wp2_with fail
      exact ⟨⟨j + 1, t + 1, (by have := HT.out; omega), hj2, by go_num, by rw [HY.out]; exact HF.out⟩, by simp [intOf]; omega⟩
     refine AllReadyH.cons (o := { dst := some 60, op := Op.load 3 (Operand.tmp 59), type := 3, pos := "ref.go:235", after := #[{ on := 11, ground := Ground.data }], guard := none }) rfl (fun K hK => ?_) AllReadyH.nil
     go_simp; refine hK.out _ _ trivial (fun hHeld => ?_)
     clear hK K
     try simp only [Act.put, List.setIfInBounds_toArray, List.set_cons_zero, List.set_cons_succ]
     refine wpAnyH_ready (rs := [2]) (by kernel_rfl) (by simp) ?_
     refine AllReadyH.cons (o := { dst := some 50, op := Op.load 28 (Operand.tmp 49), type := 28, pos := "ref.go:235", after := #[{ on := 1, ground := Ground.data }], guard := none }) rfl (fun K hK => ?_) AllReadyH.nil
     go_simp; refine hK.out _ _ trivial (fun hHeld => ?_)
     clear hK K
     try simp only [Act.put, List.setIfInBounds_toArray, List.set_cons_zero, List.set_cons_succ]
     refine wpAnyH_take (i := 4) (oi := { dst := some 52, op := Op.indexAddr 28 (Operand.tmp 50) (Operand.tmp 51), type := 0, pos := "ref.go:235", after := #[{ on := 2, ground := Ground.data }, { on := 3, ground := Ground.data }], guard := none }) (v := ?pcbbv4) rfl (by kernel_rfl) (by kernel_rfl) (by kernel_rfl) (fun _ _ _ h => h) (Or.inl ⟨by rfl, ?pcbbh4⟩) (by assumption) ?pcbbr4
     case pcbbh4 => ((intro w hSw; (try dsimp only at hSw); go_simp); try with_reducible rfl)
     try simp only [Act.put, List.setIfInBounds_toArray, List.set_cons_zero, List.set_cons_succ]
     refine wpAnyH_take (i := 5) (oi := { dst := some 53, op := Op.fieldAddr 50 (Operand.tmp 52) 1, type := 0, pos := "ref.go:235", after := #[{ on := 4, ground := Ground.data }], guard := none }) (v := ?pcbbv5) rfl (by kernel_rfl) (by kernel_rfl) (by kernel_rfl) (fun _ _ _ h => h) (Or.inl ⟨by rfl, ?pcbbh5⟩) (by assumption) ?pcbbr5
     case pcbbh5 => ((intro w hSw; (try dsimp only at hSw); go_simp); try with_reducible rfl)
     try simp only [Act.put, List.setIfInBounds_toArray, List.set_cons_zero, List.set_cons_succ]
     refine wpAnyH_ready (rs := [6]) (by kernel_rfl) (by simp) ?_
     refine AllReadyH.cons (o := { dst := some 54, op := Op.load 3 (Operand.tmp 53), type := 3, pos := "ref.go:235", after := #[{ on := 5, ground := Ground.data }], guard := none }) rfl (fun K hK => ?_) AllReadyH.nil
     go_simp; refine hK.out _ _ trivial (fun hHeld => ?_)
     clear hK K
     try simp only [Act.put, List.setIfInBounds_toArray, List.set_cons_zero, List.set_cons_succ]
     refine wpAnyH_take (i := 13) (oi := { dst := some 61, op := Op.build 42 #[(0, Operand.tmp 54), (1, Operand.tmp 60), (2, Operand.const (Value.int IntKind.i64 3))], type := 42, pos := "ref.go:235", after := #[{ on := 6, ground := Ground.data }, { on := 12, ground := Ground.data }], guard := none }) (v := ?pcbbv13) rfl (by kernel_rfl) (by kernel_rfl) (by kernel_rfl) (fun _ _ _ h => h) (Or.inl ⟨by rfl, ?pcbbh13⟩) (by assumption) ?pcbbr13
     case pcbbh13 => ((intro w hSw; (try dsimp only at hSw); go_simp); try with_reducible rfl)
     try simp only [Act.put, List.setIfInBounds_toArray, List.set_cons_zero, List.set_cons_succ]
     refine wpAnyH_ready (rs := [14]) (by kernel_rfl) (by simp) ?_
     refine AllReadyH.cons (o := { dst := some 62, op := Op.call { callee := Callee.value (Operand.func 35), args := #[Operand.tmp 48, Operand.tmp 61], argTypes := #[33, 42] }, type := 33, pos := "ref.go:235", after := #[{ on := 0, ground := Ground.data }, { on := 13, ground := Ground.data }], guard := none }) rfl (fun K hK => ?_) AllReadyH.nil
     go_simp; go_at_call 35; (with_reducible refine HPU.out.mono ?_); rintro e w2 hpu; obtain ⟨v2, rfl, -⟩ := hpu.ex; have HF := hid (HI9.out.put hpu); clear hpu; refine hK.out _ _ trivial (fun hHeld => ?_)
     clear hK K
     try simp only [Act.put, List.setIfInBounds_toArray, List.set_cons_zero, List.set_cons_succ]
     refine wpAnyH_take (i := 15) (oi := { dst := some 3, op := Op.assign (Operand.tmp 62), type := 33, pos := "ref.go:235", after := #[{ on := 14, ground := Ground.data }, { on := 14, ground := Ground.chain }, { on := 0, ground := Ground.phase }, { on := 1, ground := Ground.phase }, { on := 2, ground := Ground.phase }, { on := 3, ground := Ground.phase }, { on := 4, ground := Ground.phase }, { on := 5, ground := Ground.phase }, { on := 6, ground := Ground.phase }, { on := 7, ground := Ground.phase }, { on := 8, ground := Ground.phase }, { on := 9, ground := Ground.phase }, { on := 10, ground := Ground.phase }, { on := 11, ground := Ground.phase }, { on := 12, ground := Ground.phase }, { on := 13, ground := Ground.phase }, { on := 14, ground := Ground.phase }], guard := none }) (v := ?pcbbv15) rfl (by kernel_rfl) (by kernel_rfl) (by kernel_rfl) (fun _ _ _ h => h) (Or.inl ⟨by rfl, ?pcbbh15⟩) (by assumption) ?pcbbr15
     case pcbbh15 => ((intro w hSw; (try dsimp only at hSw); go_simp); try with_reducible rfl)
     try simp only [Act.put, List.setIfInBounds_toArray, List.set_cons_zero, List.set_cons_succ]
     refine wpAnyH_done (by kernel_rfl) ?_ _
     go_wp2_with fail
     exact ⟨⟨j + 1, t + 1, (by have := HT.out; omega), hj2, by go_num, by rw [HY.out]; exact HF.out⟩, by simp [intOf]; omega⟩
    ·have hje : j = NP - 64 := by omega
     subst hje
     clear hi hnr hN
     go_wp2_with fail
     go_ret
     obtain ⟨p9, c9, e9, h9⟩ := HIN.out.ex
     exact ⟨⟨p9, c9, by rw [← HL.out, ← HNN.out, ← e9]; rfl, by rw [← HL.out, ← HNN.out]; exact h9⟩, HIN.out.b⟩
end Go.Proofs.Ythlingholhjcnaa
namespace Go.Proofs.Ythlingholhjcnaa
open Go.RowKit
theorem lessF_iff (a b : Ft) : lessF a b = true ↔ a.file < b.file ∨ (a.file = b.file ∧ (a.line < b.line ∨ (a.line = b.line ∧ a.err < b.err))) := by
 unfold lessF
 by_cases h1 : a.file = b.file
 ·rw [if_neg (fun h => h h1)]
  by_cases h2 : a.line = b.line
  ·rw [if_neg (fun h => h h2)]; simp; omega
  ·rw [if_pos h2]; simp; omega
 ·rw [if_pos h1]; simp; omega
theorem lessF_false (a b : Ft) : lessF a b = false ↔ ¬ (a.file < b.file ∨ (a.file = b.file ∧ (a.line < b.line ∨ (a.line = b.line ∧ a.err < b.err)))) := by
 rw [← lessF_iff]; simp
def leF (a b : Ft) : Prop := lessF b a = false
theorem leF_of_less {a b : Ft} (h : lessF a b = true) : leF a b := by
 unfold leF; rw [lessF_false]; rw [lessF_iff] at h; omega
theorem leF_trans {a b c : Ft} (h1 : leF a b) (h2 : leF b c) : leF a c := by
 unfold leF at *; rw [lessF_false] at *; omega
theorem leF_anti {a b : Ft} (h1 : leF a b) (h2 : leF b a) : a = b := by
 unfold leF at *; rw [lessF_false] at *
 obtain ⟨a1, a2, a3⟩ := a
 obtain ⟨b1, b2, b3⟩ := b
 dsimp only at h1 h2
 have e1 : a1 = b1 := by omega
 have e2 : a2 = b2 := by omega
 have e3 : a3 = b3 := by omega
 rw [e1, e2, e3]
theorem srt_unique : ∀ (a b : List Ft), a.Perm b → a.Pairwise leF → b.Pairwise leF → a = b
 | [], b, h, _, _ => (List.nil_perm.1 h).symm
 | x :: a, b, h, ha, hb => by
  cases b with
  | nil => exact absurd h.length_eq (by simp)
  | cons y b =>
   have hxy : x = y := by
    have h1 : x ∈ y :: b := h.subset (List.mem_cons_self ..)
    have h2 : y ∈ x :: a := h.symm.subset (List.mem_cons_self ..)
    rcases List.mem_cons.1 h1 with e | e
    ·exact e
    ·rcases List.mem_cons.1 h2 with e2 | e2
     ·exact e2.symm
     ·exact leF_anti ((List.pairwise_cons.1 ha).1 y e2) ((List.pairwise_cons.1 hb).1 x e)
   subst hxy
   rw [srt_unique a b (List.Perm.cons_inv h) (List.pairwise_cons.1 ha).2 (List.pairwise_cons.1 hb).2]
theorem put_srt (f : Ft) : ∀ (l : List Ft) (s : List Ft × Bool), (s.1 ++ l).Pairwise leF → (s.2 = true → (∀ x ∈ l, leF f x)) → (s.2 = false → ∀ x ∈ s.1, leF x f) → (putTot f (l.foldl (putStep f) s)).Pairwise leF
 | [], s, h, h1, h2 => by
  unfold putTot
  rw [List.foldl_nil, List.append_nil] at *
  split
  ·exact h
  ·rename_i hs
   rw [List.pairwise_append]
   refine ⟨h, List.pairwise_singleton _ _, fun a ha b hb => ?_⟩
   rw [List.mem_singleton.1 hb]
   exact h2 (by simpa using hs) a ha
 | x :: l, s, h, h1, h2 => by
  rw [List.foldl_cons]
  unfold putStep
  split
  ·rename_i hc
   have hs : s.2 = false := by cases e : s.2 <;> simp_all
   have hl : lessF f x = true := by simp_all
   have hr := List.pairwise_append.1 h
   have hx := List.pairwise_cons.1 hr.2.1
   refine put_srt f l _ ?_ (fun _ y hy => leF_trans (leF_of_less hl) (hx.1 y hy)) (fun e => by cases e)
   have e : (s.1 ++ [f] ++ [x]) ++ l = s.1 ++ (f :: x :: l) := by simp
   show ((s.1 ++ [f] ++ [x]) ++ l).Pairwise leF
   rw [e, List.pairwise_append]
   refine ⟨hr.1, List.pairwise_cons.2 ⟨fun y hy => ?_, hr.2.1⟩, fun a ha b hb => ?_⟩
   ·rcases List.mem_cons.1 hy with e | e
    ·rw [e]; exact leF_of_less hl
    ·exact leF_trans (leF_of_less hl) (hx.1 y e)
   ·rcases List.mem_cons.1 hb with e | e
    ·rw [e]; exact h2 hs a ha
    ·exact hr.2.2 a ha b e
  ·rename_i hc
   refine put_srt f l _ (by simpa using h) (fun e y hy => h1 e y (List.mem_cons_of_mem _ hy)) (fun e y hy => ?_)
   rcases List.mem_append.1 hy with e2 | e2
   ·exact h2 e y e2
   ·rw [List.mem_singleton.1 e2]
    have hs : s.2 = false := e
    unfold leF
    simp [hs] at hc
    exact hc
theorem putP_srt (f : Ft) (l : List Ft) (h : l.Pairwise leF) : (putP f l).Pairwise leF := put_srt f l ([], false) h (fun e => by cases e) (fun _ x hx => by cases hx)
def dupsP (ms : List Mk) : Nat → List Ft
 | 0 => []
 | k + 1 => match ms[k]? with
  | some x => if (ms.take k).any (fun y => decide (y.name = x.name)) = true then dupsP ms k ++ [⟨x.file, x.line, 5⟩] else dupsP ms k
  | none => dupsP ms k
def longP (ps : List PtR) (l0 : List Ft) : Nat → List Ft
 | 0 => l0
 | k + 1 => match ps[64 + k]? with
  | some y => longP ps l0 k ++ [⟨y.file, y.line, 3⟩]
  | none => longP ps l0 k
theorem put_snoc (f : Ft) {a b : List Ft} (h : a.Perm b) : (putP f a).Perm (b ++ [f]) := (putP_perm f a).trans (((List.Perm.cons f h)).trans (List.perm_append_singleton f b).symm)
theorem dups_perm (ms : List Mk) : ∀ k, (dupsR ms k).Perm (dupsP ms k) ∧ (dupsR ms k).Pairwise leF
 | 0 => ⟨List.Perm.refl _, List.Pairwise.nil⟩
 | k + 1 => by
  obtain ⟨h1, h2⟩ := dups_perm ms k
  unfold dupsR dupsP
  cases ms[k]? with
  | none => exact ⟨h1, h2⟩
  | some x =>
   dsimp only
   by_cases hc : (ms.take k).any (fun y => decide (y.name = x.name)) = true
   ·rw [if_pos hc, if_pos hc]; exact ⟨put_snoc _ h1, putP_srt _ _ h2⟩
   ·rw [if_neg hc, if_neg hc]; exact ⟨h1, h2⟩
theorem long_perm (ps : List PtR) {a b : List Ft} (h : a.Perm b) (hs : a.Pairwise leF) : ∀ k, (longR ps a k).Perm (longP ps b k) ∧ (longR ps a k).Pairwise leF
 | 0 => ⟨h, hs⟩
 | k + 1 => by
  obtain ⟨h1, h2⟩ := long_perm ps h hs k
  unfold longR longP
  cases ps[64 + k]? with
  | none => exact ⟨h1, h2⟩
  | some y => exact ⟨put_snoc _ h1, putP_srt _ _ h2⟩
theorem faults_one (ms : List Mk) (ps : List PtR) {l : List Ft} (hp : l.Perm (longP ps (dupsP ms ms.length) (ps.length - 64))) (hs : l.Pairwise leF) : l = longR ps (dupsR ms ms.length) (ps.length - 64) := by
 obtain ⟨h1, h2⟩ := dups_perm ms ms.length
 obtain ⟨h3, h4⟩ := long_perm ps h1 h2 (ps.length - 64)
 exact srt_unique _ _ (hp.trans h3.symm) hs h4
end Go.Proofs.Ythlingholhjcnaa
namespace Go.Proofs.Ythlingholhjcnaa
open Go.RowKit
variable {W w w' : World}
def cmp3 (a b : Int) : Int := if a < b then -1 else if b < a then 1 else 0
theorem nan_int (a : Int) (W : World) : Calls Try.prog 61 #[.int .i64 a] W (fun e w' => e = .returned (.bool false) ∧ w' = W) := by
 have e1 : (a != a) = false := by simp
 go_enter Try.func61, Try.ntmps61
 go_wp2
 go_ret
 first | exact ⟨rfl, rfl⟩ | exact ⟨by simp, rfl⟩
theorem cmp_int (a b : Int) (W : World) : Calls Try.prog 54 #[.int .i64 a, .int .i64 b] W (fun e w' => e = .returned (.int .i64 (cmp3 a b)) ∧ w' = W) := by
 have HA := hid (nan_int a)
 have HB := hid (nan_int b)
 unfold cmp3
 by_cases h1 : a < b
 ·rw [if_pos h1]
  have d1 : decide (a < b) = true := by simpa using h1
  clear h1
  go_enter Try.func54, Try.ntmps54
  go_wp2_with (go_at_call 61; (with_reducible first | refine (HA.out _).mono ?_ | refine (HB.out _).mono ?_); rintro e w2 ⟨rfl, hw2⟩; rw [hw2]; clear hw2)
  go_ret
  exact ⟨rfl, rfl⟩
 ·rw [if_neg h1]
  have d1 : decide (a < b) = false := by simpa using h1
  by_cases h2 : b < a
  ·rw [if_pos h2]
   have d2 : decide (b < a) = true := by simpa using h2
   clear h1 h2
   go_enter Try.func54, Try.ntmps54
   go_wp2_with (go_at_call 61; (with_reducible first | refine (HA.out _).mono ?_ | refine (HB.out _).mono ?_); rintro e w2 ⟨rfl, hw2⟩; rw [hw2]; clear hw2)
   go_ret
   exact ⟨rfl, rfl⟩
  ·rw [if_neg h2]
   have d2 : decide (b < a) = false := by simpa using h2
   clear h1 h2
   go_enter Try.func54, Try.ntmps54
   go_wp2_with (go_at_call 61; (with_reducible first | refine (HA.out _).mono ?_ | refine (HB.out _).mono ?_); rintro e w2 ⟨rfl, hw2⟩; rw [hw2]; clear hw2)
   go_ret
   exact ⟨rfl, rfl⟩
theorem nan_err (a : Int) (W : World) : Calls Try.prog 62 #[.int .i64 a] W (fun e w' => e = .returned (.bool false) ∧ w' = W) := by
 have e1 : (a != a) = false := by simp
 go_enter Try.func62, Try.ntmps62
 go_wp2
 go_ret
 first | exact ⟨rfl, rfl⟩ | exact ⟨by simp, rfl⟩
theorem cmp_err (a b : Int) (W : World) : Calls Try.prog 55 #[.int .i64 a, .int .i64 b] W (fun e w' => e = .returned (.int .i64 (cmp3 a b)) ∧ w' = W) := by
 have HA := hid (nan_err a)
 have HB := hid (nan_err b)
 unfold cmp3
 by_cases h1 : a < b
 ·rw [if_pos h1]
  have d1 : decide (a < b) = true := by simpa using h1
  clear h1
  go_enter Try.func55, Try.ntmps55
  go_wp2_with (go_at_call 62; (with_reducible first | refine (HA.out _).mono ?_ | refine (HB.out _).mono ?_); rintro e w2 ⟨rfl, hw2⟩; rw [hw2]; clear hw2)
  go_ret
  exact ⟨rfl, rfl⟩
 ·rw [if_neg h1]
  have d1 : decide (a < b) = false := by simpa using h1
  by_cases h2 : b < a
  ·rw [if_pos h2]
   have d2 : decide (b < a) = true := by simpa using h2
   clear h1 h2
   go_enter Try.func55, Try.ntmps55
   go_wp2_with (go_at_call 62; (with_reducible first | refine (HA.out _).mono ?_ | refine (HB.out _).mono ?_); rintro e w2 ⟨rfl, hw2⟩; rw [hw2]; clear hw2)
   go_ret
   exact ⟨rfl, rfl⟩
  ·rw [if_neg h2]
   have d2 : decide (b < a) = false := by simpa using h2
   clear h1 h2
   go_enter Try.func55, Try.ntmps55
   go_wp2_with (go_at_call 62; (with_reducible first | refine (HA.out _).mono ?_ | refine (HB.out _).mono ?_); rintro e w2 ⟨rfl, hw2⟩; rw [hw2]; clear hw2)
   go_ret
   exact ⟨rfl, rfl⟩
def orP : List Int → Int
 | [] => 0
 | a :: l => if a ≠ 0 then a else orP l
theorem orP_take : ∀ (l : List Int) (k : Nat), (∀ j (h : j < k) (h2 : j < l.length), l[j] = 0) → orP l = orP (l.drop k)
 | _, 0, _ => rfl
 | [], k + 1, _ => by simp
 | a :: l, k + 1, h => by
  have h0 : a = 0 := h 0 (Nat.succ_pos _) (by simp)
  show (if a ≠ 0 then a else orP l) = orP (l.drop k)
  rw [if_neg (fun hn => hn h0)]
  exact orP_take l k (fun j hj hl => by have := h (j + 1) (by omega) (by simp; omega); simpa using this)
theorem or_any (p : Option Addr) (c : Nat) (l : List Int) (W : World) (hrow : Row W p (l.map (Value.int .i64))) (hlen : l.length ≤ 1000000) :
  Calls Try.prog 53 #[.slice p l.length c] W (fun e w' => e = .returned (.int .i64 (orP l)) ∧ w' = W) := by
 obtain ⟨N, hN⟩ : ∃ N, N = l.length := ⟨_, rfl⟩
 have HN := hid hN
 have HROW := hid hrow
 rw [← hN] at hlen ⊢
 clear hN hrow
 go_enter Try.func53, Try.ntmps53
 go_wp2_with (fail)
 go_loopw [8] (fun i wr => ∃ (k : Nat), k ≤ N ∧ i = .int .i64 k ∧ wr = W ∧ ∀ j (h : j < k) (h2 : j < l.length), l[j] = 0) (fun i _ => N - (intOf i).toNat)
 case atStart => exact ⟨0, Nat.zero_le _, rfl, rfl, fun j h _ => absurd h (Nat.not_lt_zero _)⟩
 case round =>
  rename World => wr
  obtain ⟨k, hk, rfl, rfl, hz⟩ := hrel
  have HZ := hid hz
  clear hz
  by_cases hlt : k < N
  ·have hkI : (k : Int) < N := by omega
   have hkl : k < l.length := by rw [← HN.out]; exact hlt
   obtain ⟨b, o, rfl, hbl, hc⟩ := HROW.out.at (by simp; omega)
   have v0 := hc k (by simpa using hkl)
   rw [List.getElem_map] at v0
   have HO : Hid (orP l = if l[k] ≠ 0 then l[k] else orP (l.drop (k + 1))) := by
    unfold Hid
    rw [orP_take l k HZ.out, List.drop_eq_getElem_cons hkl]; rfl
   have HEQ : Hid (∀ a, l[k] = a → a = 0 → ∀ j (h : j < k + 1) (h2 : j < l.length), l[j] = 0) := fun a ha h0 j hj hl => by
    by_cases e : j = k
    ·subst e; rw [ha, h0]
    ·exact HZ.out j (by omega) hl
   have HA := hid (show l[k] = l[k] from rfl)
   obtain ⟨a, ha⟩ : ∃ a, a = l[k] := ⟨_, rfl⟩
   have HAK := hid ha
   rw [← ha] at v0 HO
   clear ha hc HA
   by_cases h0 : a = 0
   ·have e1 : (a != 0) = false := by simp [h0]
    have H0 := hid h0
    clear h0
    go_wp2_with (fail)
    exact ⟨⟨k + 1, by omega, by go_num, trivial, HEQ.out a HAK.out.symm H0.out⟩, by simp [intOf]; omega⟩
   ·have e1 : (a != 0) = true := by simp [h0]
    have H0 := hid h0
    clear h0
    go_wp2_with (fail)
    go_ret
    exact ⟨by rw [HO.out, if_pos H0.out]; rfl, rfl⟩
  ·have hke : k = N := by omega
   subst hke
   have HO : Hid (orP l = 0) := by
    unfold Hid
    rw [orP_take l k HZ.out, List.drop_of_length_le (by rw [HN.out]; exact Nat.le_refl _)]; rfl
   go_wp2_with (fail)
   go_ret
   exact ⟨by rw [HO.out]; rfl, rfl⟩
end Go.Proofs.Ythlingholhjcnaa
namespace Go.Proofs.Ythlingholhjcnaa
open Go.RowKit
variable {W w w' : World}
def orderP (f g : Ft) : Int := orP [cmp3 f.file g.file, cmp3 f.line g.line, cmp3 f.err g.err]
theorem order_less (f g : Ft) : decide (orderP f g < 0) = lessF f g := by
 rw [Bool.eq_iff_iff, lessF_iff]
 unfold orderP orP orP orP orP cmp3
 simp only [decide_eq_true_eq]
 repeat' split
 all_goals omega
set_option maxRecDepth 20000 in
set_option maxHeartbeats 2000000 in
theorem order_any (f g : Ft) (W : World) : Calls Try.prog 34 #[.agg #[.int .i64 f.file, .int .i64 f.line, .int .i64 f.err], .agg #[.int .i64 g.file, .int .i64 g.line, .int .i64 g.err]] W (fun e w' => e = .returned (.int .i64 (orderP f g)) ∧ ∃ q os', w' = Go.Sort.grow (W.drewN q) os') := by
 obtain ⟨W2, hW2⟩ : ∃ W2, W2 = (W.alloc (.cells #[.int .i64 f.file, .int .i64 f.line, .int .i64 f.err] 42)).alloc (.cells #[.int .i64 g.file, .int .i64 g.line, .int .i64 g.err] 42) := ⟨_, rfl⟩
 have HW2 := hid hW2
 have hb2 : Below W.heap.size W W2 := by rw [hW2]; exact ((Below.refl _ _).alloc (Nat.le_refl _) _).alloc (by simp) _
 have g1 : W2.heap[W.heap.size]? = some (.cells #[.int .i64 f.file, .int .i64 f.line, .int .i64 f.err] 42 (0, 0)) := by rw [hW2]; exact (Below.heap_alloc _ _ _ (by simp)).trans (heap_alloc_new _ _)
 have g2 : W2.heap[W.heap.size + 1]? = some (.cells #[.int .i64 g.file, .int .i64 g.line, .int .i64 g.err] 42 (0, 0)) := by
  have := heap_alloc_new (W.alloc (.cells #[.int .i64 f.file, .int .i64 f.line, .int .i64 f.err] 42)) (.cells #[.int .i64 g.file, .int .i64 g.line, .int .i64 g.err] 42)
  rw [World.size_alloc] at this
  rw [hW2]; exact this
 obtain ⟨wd, hwd⟩ : ∃ wd, wd = W2.drew := ⟨_, rfl⟩
 have hbd : Below W.heap.size W wd := by rw [hwd]; exact hb2.drew
 have k1 : wd.heap[W.heap.size]? = some (.cells #[.int .i64 f.file, .int .i64 f.line, .int .i64 f.err] 42 (0, 0)) := by rw [hwd]; exact g1
 have k2 : wd.heap[W.heap.size + 1]? = some (.cells #[.int .i64 g.file, .int .i64 g.line, .int .i64 g.err] 42 (0, 0)) := by rw [hwd]; exact g2
 have a0 := cell_of_row _ _ 0 _ _ _ k1
 have a1 := cell_of_row _ _ 1 _ _ _ k1
 have a2 := cell_of_row _ _ 2 _ _ _ k1
 have b0 := cell_of_row _ _ 0 _ _ _ k2
 have b1 := cell_of_row _ _ 1 _ _ _ k2
 have b2 := cell_of_row _ _ 2 _ _ _ k2
 simp only [List.getElem?_toArray, List.getElem?_cons_zero, List.getElem?_cons_succ] at a0 a1 a2 b0 b1 b2
 have hl1 : W.heap.size < wd.heap.size := (Array.getElem?_eq_some_iff.1 k1).1
 have hl2 : W.heap.size + 1 < wd.heap.size := (Array.getElem?_eq_some_iff.1 k2).1
 have HH0 : Hid (SameAt W.heap.size (W.heap.size + 1) wd wd) := ⟨Nat.le_refl _, rfl, rfl⟩
 have r0 : ∀ w : World, SameAt W.heap.size (W.heap.size + 1) wd w → w.cell? ⟨W.heap.size, 0, none⟩ = some (.int .i64 f.file) := fun w h => (World.cell?_of_block (a := ⟨W.heap.size, 0, none⟩) h.a).trans a0
 have r1 : ∀ w : World, SameAt W.heap.size (W.heap.size + 1) wd w → w.cell? ⟨W.heap.size, 1, none⟩ = some (.int .i64 f.line) := fun w h => (World.cell?_of_block (a := ⟨W.heap.size, 1, none⟩) h.a).trans a1
 have r2 : ∀ w : World, SameAt W.heap.size (W.heap.size + 1) wd w → w.cell? ⟨W.heap.size, 2, none⟩ = some (.int .i64 f.err) := fun w h => (World.cell?_of_block (a := ⟨W.heap.size, 2, none⟩) h.a).trans a2
 have r3 : ∀ w : World, SameAt W.heap.size (W.heap.size + 1) wd w → w.cell? ⟨W.heap.size + 1, 0, none⟩ = some (.int .i64 g.file) := fun w h => (World.cell?_of_block (a := ⟨W.heap.size + 1, 0, none⟩) h.b).trans b0
 have r4 : ∀ w : World, SameAt W.heap.size (W.heap.size + 1) wd w → w.cell? ⟨W.heap.size + 1, 1, none⟩ = some (.int .i64 g.line) := fun w h => (World.cell?_of_block (a := ⟨W.heap.size + 1, 1, none⟩) h.b).trans b1
 have r5 : ∀ w : World, SameAt W.heap.size (W.heap.size + 1) wd w → w.cell? ⟨W.heap.size + 1, 2, none⟩ = some (.int .i64 g.err) := fun w h => (World.cell?_of_block (a := ⟨W.heap.size + 1, 2, none⟩) h.b).trans b2
 have HC0 := hid (cmp_int f.file g.file wd)
 have HC1 := hid (cmp_int f.line g.line wd)
 have HC2 := hid (cmp_err f.err g.err wd)
 obtain ⟨x, hx⟩ : ∃ x, x = cmp3 f.file g.file := ⟨_, rfl⟩
 obtain ⟨y, hy⟩ : ∃ y, y = cmp3 f.line g.line := ⟨_, rfl⟩
 obtain ⟨z, hz⟩ : ∃ z, z = cmp3 f.err g.err := ⟨_, rfl⟩
 have HO : Hid (orderP f g = orP [x, y, z]) := by unfold Hid orderP; rw [hx, hy, hz]
 rw [← hx] at HC0
 rw [← hy] at HC1
 rw [← hz] at HC2
 have HOR : Hid (Calls Try.prog 53 #[.slice (some ⟨wd.heap.size, 0, none⟩) 3 3] (wd.alloc (.cells #[.int .i64 x, .int .i64 y, .int .i64 z] 3)) (fun e w' => e = .returned (.int .i64 (orP [x, y, z])) ∧ w' = wd.alloc (.cells #[.int .i64 x, .int .i64 y, .int .i64 z] 3))) := or_any (some ⟨wd.heap.size, 0, none⟩) 3 [x, y, z] _ (row_blkAt (heap_alloc_new _ _)) (by simp)
 have HBD : Hid (∃ q os', wd = Go.Sort.grow (W.drewN q) os') := by
  refine ⟨1, #[.cells #[.int .i64 f.file, .int .i64 f.line, .int .i64 f.err] 42, .cells #[.int .i64 g.file, .int .i64 g.line, .int .i64 g.err] 42], ?_⟩
  rw [hwd, hW2, Go.Sort.alloc_eq_grow, Go.Sort.alloc_eq_grow, Go.Sort.grow_grow]; rfl
 clear hx hy hz hW2 hb2 g1 g2 k1 k2 hbd a0 a1 a2 b0 b1 b2
 go_enter Try.func34, Try.ntmps34
 go_upto_region 1 with (fail)
 rw [← HW2.out]
 refine wp_region_held_drew (S := SameAt W.heap.size (W.heap.size + 1) wd) (by kernel_rfl) (by rw [← hwd]; exact HH0.out) (fun hHeld => ?_)
 rw [← hwd] at *
 refine wpAnyH_take (i := 0) (oi := { dst := some 5, op := Op.fieldAddr 42 (Operand.tmp 2) 0, type := 0, pos := "frag.go:181", after := #[], guard := none }) (v := ?pav0) rfl (by kernel_rfl) (by kernel_rfl) (by kernel_rfl) (fun _ _ _ h => h) (Or.inl ⟨by rfl, ?pah0⟩) (by assumption) ?par0
 case pah0 => ((intro w hSw; (try dsimp only at hSw); go_simp); try with_reducible rfl)
 try simp only [Act.put, List.setIfInBounds_toArray, List.set_cons_zero, List.set_cons_succ]
 refine wpAnyH_take (i := 1) (oi := { dst := some 6, op := Op.load 3 (Operand.tmp 5), type := 3, pos := "frag.go:181", after := #[{ on := 0, ground := Ground.data }], guard := none }) (v := ?pav1) rfl (by kernel_rfl) (by kernel_rfl) (by kernel_rfl) (fun _ _ _ h => h) (Or.inl ⟨by rfl, ?pah1⟩) (by assumption) ?par1
 case pah1 => ((intro w hSw; (try dsimp only at hSw); go_simp); try with_reducible rfl)
 try simp only [Act.put, List.setIfInBounds_toArray, List.set_cons_zero, List.set_cons_succ]
 refine wpAnyH_take (i := 2) (oi := { dst := some 7, op := Op.fieldAddr 42 (Operand.tmp 3) 0, type := 0, pos := "frag.go:181", after := #[], guard := none }) (v := ?pav2) rfl (by kernel_rfl) (by kernel_rfl) (by kernel_rfl) (fun _ _ _ h => h) (Or.inl ⟨by rfl, ?pah2⟩) (by assumption) ?par2
 case pah2 => ((intro w hSw; (try dsimp only at hSw); go_simp); try with_reducible rfl)
 try simp only [Act.put, List.setIfInBounds_toArray, List.set_cons_zero, List.set_cons_succ]
 refine wpAnyH_take (i := 3) (oi := { dst := some 8, op := Op.load 3 (Operand.tmp 7), type := 3, pos := "frag.go:181", after := #[{ on := 2, ground := Ground.data }], guard := none }) (v := ?pav3) rfl (by kernel_rfl) (by kernel_rfl) (by kernel_rfl) (fun _ _ _ h => h) (Or.inl ⟨by rfl, ?pah3⟩) (by assumption) ?par3
 case pah3 => ((intro w hSw; (try dsimp only at hSw); go_simp); try with_reducible rfl)
 try simp only [Act.put, List.setIfInBounds_toArray, List.set_cons_zero, List.set_cons_succ]
 refine wpAnyH_take (i := 5) (oi := { dst := some 10, op := Op.fieldAddr 42 (Operand.tmp 2) 1, type := 0, pos := "frag.go:181", after := #[], guard := none }) (v := ?pav5) rfl (by kernel_rfl) (by kernel_rfl) (by kernel_rfl) (fun _ _ _ h => h) (Or.inl ⟨by rfl, ?pah5⟩) (by assumption) ?par5
 case pah5 => ((intro w hSw; (try dsimp only at hSw); go_simp); try with_reducible rfl)
 try simp only [Act.put, List.setIfInBounds_toArray, List.set_cons_zero, List.set_cons_succ]
 refine wpAnyH_take (i := 6) (oi := { dst := some 11, op := Op.load 3 (Operand.tmp 10), type := 3, pos := "frag.go:181", after := #[{ on := 5, ground := Ground.data }], guard := none }) (v := ?pav6) rfl (by kernel_rfl) (by kernel_rfl) (by kernel_rfl) (fun _ _ _ h => h) (Or.inl ⟨by rfl, ?pah6⟩) (by assumption) ?par6
 case pah6 => ((intro w hSw; (try dsimp only at hSw); go_simp); try with_reducible rfl)
 try simp only [Act.put, List.setIfInBounds_toArray, List.set_cons_zero, List.set_cons_succ]
 refine wpAnyH_take (i := 7) (oi := { dst := some 12, op := Op.fieldAddr 42 (Operand.tmp 3) 1, type := 0, pos := "frag.go:181", after := #[], guard := none }) (v := ?pav7) rfl (by kernel_rfl) (by kernel_rfl) (by kernel_rfl) (fun _ _ _ h => h) (Or.inl ⟨by rfl, ?pah7⟩) (by assumption) ?par7
 case pah7 => ((intro w hSw; (try dsimp only at hSw); go_simp); try with_reducible rfl)
 try simp only [Act.put, List.setIfInBounds_toArray, List.set_cons_zero, List.set_cons_succ]
 refine wpAnyH_take (i := 8) (oi := { dst := some 13, op := Op.load 3 (Operand.tmp 12), type := 3, pos := "frag.go:181", after := #[{ on := 7, ground := Ground.data }], guard := none }) (v := ?pav8) rfl (by kernel_rfl) (by kernel_rfl) (by kernel_rfl) (fun _ _ _ h => h) (Or.inl ⟨by rfl, ?pah8⟩) (by assumption) ?par8
 case pah8 => ((intro w hSw; (try dsimp only at hSw); go_simp); try with_reducible rfl)
 try simp only [Act.put, List.setIfInBounds_toArray, List.set_cons_zero, List.set_cons_succ]
 refine wpAnyH_take (i := 10) (oi := { dst := some 15, op := Op.fieldAddr 42 (Operand.tmp 2) 2, type := 0, pos := "frag.go:181", after := #[], guard := none }) (v := ?pav10) rfl (by kernel_rfl) (by kernel_rfl) (by kernel_rfl) (fun _ _ _ h => h) (Or.inl ⟨by rfl, ?pah10⟩) (by assumption) ?par10
 case pah10 => ((intro w hSw; (try dsimp only at hSw); go_simp); try with_reducible rfl)
 try simp only [Act.put, List.setIfInBounds_toArray, List.set_cons_zero, List.set_cons_succ]
 refine wpAnyH_take (i := 11) (oi := { dst := some 16, op := Op.load 40 (Operand.tmp 15), type := 40, pos := "frag.go:181", after := #[{ on := 10, ground := Ground.data }], guard := none }) (v := ?pav11) rfl (by kernel_rfl) (by kernel_rfl) (by kernel_rfl) (fun _ _ _ h => h) (Or.inl ⟨by rfl, ?pah11⟩) (by assumption) ?par11
 case pah11 => ((intro w hSw; (try dsimp only at hSw); go_simp); try with_reducible rfl)
 try simp only [Act.put, List.setIfInBounds_toArray, List.set_cons_zero, List.set_cons_succ]
 refine wpAnyH_take (i := 12) (oi := { dst := some 17, op := Op.fieldAddr 42 (Operand.tmp 3) 2, type := 0, pos := "frag.go:181", after := #[], guard := none }) (v := ?pav12) rfl (by kernel_rfl) (by kernel_rfl) (by kernel_rfl) (fun _ _ _ h => h) (Or.inl ⟨by rfl, ?pah12⟩) (by assumption) ?par12
 case pah12 => ((intro w hSw; (try dsimp only at hSw); go_simp); try with_reducible rfl)
 try simp only [Act.put, List.setIfInBounds_toArray, List.set_cons_zero, List.set_cons_succ]
 refine wpAnyH_take (i := 13) (oi := { dst := some 18, op := Op.load 40 (Operand.tmp 17), type := 40, pos := "frag.go:181", after := #[{ on := 12, ground := Ground.data }], guard := none }) (v := ?pav13) rfl (by kernel_rfl) (by kernel_rfl) (by kernel_rfl) (fun _ _ _ h => h) (Or.inl ⟨by rfl, ?pah13⟩) (by assumption) ?par13
 case pah13 => ((intro w hSw; (try dsimp only at hSw); go_simp); try with_reducible rfl)
 try simp only [Act.put, List.setIfInBounds_toArray, List.set_cons_zero, List.set_cons_succ]
 refine wpAnyH_ready (rs := [4]) (by kernel_rfl) (by simp) ?_
 refine AllReadyH.cons (o := { dst := some 9, op := Op.call { callee := Callee.value (Operand.func 54), args := #[Operand.tmp 6, Operand.tmp 8], argTypes := #[3, 3] }, type := 3, pos := "frag.go:181", after := #[{ on := 1, ground := Ground.data }, { on := 3, ground := Ground.data }], guard := none }) rfl (fun K hK => ?_) AllReadyH.nil
 go_simp; go_at_call 54; (with_reducible refine HC0.out.mono ?_); rintro e w2 ⟨rfl, hw2⟩; rw [hw2]; clear hw2; refine hK.out _ _ hHeld (fun hHeld => ?_)
 clear hK K
 try simp only [Act.put, List.setIfInBounds_toArray, List.set_cons_zero, List.set_cons_succ]
 refine wpAnyH_ready (rs := [9]) (by kernel_rfl) (by simp) ?_
 refine AllReadyH.cons (o := { dst := some 14, op := Op.call { callee := Callee.value (Operand.func 54), args := #[Operand.tmp 11, Operand.tmp 13], argTypes := #[3, 3] }, type := 3, pos := "frag.go:181", after := #[{ on := 6, ground := Ground.data }, { on := 8, ground := Ground.data }, { on := 4, ground := Ground.chain }], guard := none }) rfl (fun K hK => ?_) AllReadyH.nil
 go_simp; go_at_call 54; (with_reducible refine HC1.out.mono ?_); rintro e w2 ⟨rfl, hw2⟩; rw [hw2]; clear hw2; refine hK.out _ _ hHeld (fun hHeld => ?_)
 clear hK K
 try simp only [Act.put, List.setIfInBounds_toArray, List.set_cons_zero, List.set_cons_succ]
 refine wpAnyH_ready (rs := [14]) (by kernel_rfl) (by simp) ?_
 refine AllReadyH.cons (o := { dst := some 19, op := Op.call { callee := Callee.value (Operand.func 55), args := #[Operand.tmp 16, Operand.tmp 18], argTypes := #[40, 40] }, type := 3, pos := "frag.go:181", after := #[{ on := 11, ground := Ground.data }, { on := 13, ground := Ground.data }, { on := 9, ground := Ground.chain }], guard := none }) rfl (fun K hK => ?_) AllReadyH.nil
 go_simp; go_at_call 55; (with_reducible refine HC2.out.mono ?_); rintro e w2 ⟨rfl, hw2⟩; rw [hw2]; clear hw2; refine hK.out _ _ hHeld (fun hHeld => ?_)
 clear hK K
 try simp only [Act.put, List.setIfInBounds_toArray, List.set_cons_zero, List.set_cons_succ]
 refine wpAnyH_ready (rs := [15]) (by kernel_rfl) (by simp) ?_
 refine AllReadyH.cons (o := { dst := some 20, op := Op.buildSlice 91 3 #[(0, Operand.tmp 9), (1, Operand.tmp 14), (2, Operand.tmp 19)], type := 91, pos := "frag.go:181", after := #[{ on := 4, ground := Ground.data }, { on := 9, ground := Ground.data }, { on := 14, ground := Ground.data }], guard := none }) rfl (fun K hK => ?_) AllReadyH.nil
 go_simp; refine hK.out _ _ (hHeld.alloc hl1 hl2 _) (fun hHeld => ?_)
 clear hK K
 try simp only [Act.put, List.setIfInBounds_toArray, List.set_cons_zero, List.set_cons_succ]
 refine wpAnyH_ready (rs := [16]) (by kernel_rfl) (by simp) ?_
 refine AllReadyH.cons (o := { dst := some 21, op := Op.call { callee := Callee.value (Operand.func 53), args := #[Operand.tmp 20], argTypes := #[91] }, type := 3, pos := "frag.go:181", after := #[{ on := 15, ground := Ground.data }, { on := 14, ground := Ground.chain }], guard := none }) rfl (fun K hK => ?_) AllReadyH.nil
 go_simp; go_at_call 53; (with_reducible refine HOR.out.mono ?_); rintro e w2 ⟨rfl, hw2⟩; rw [hw2]; clear hw2; refine hK.out _ _ hHeld (fun hHeld => ?_)
 clear hK K
 try simp only [Act.put, List.setIfInBounds_toArray, List.set_cons_zero, List.set_cons_succ]
 refine wpAnyH_take (i := 17) (oi := { dst := some 4, op := Op.assign (Operand.tmp 21), type := 3, pos := "frag.go:181", after := #[{ on := 16, ground := Ground.data }, { on := 16, ground := Ground.chain }, { on := 0, ground := Ground.phase }, { on := 1, ground := Ground.phase }, { on := 2, ground := Ground.phase }, { on := 3, ground := Ground.phase }, { on := 4, ground := Ground.phase }, { on := 5, ground := Ground.phase }, { on := 6, ground := Ground.phase }, { on := 7, ground := Ground.phase }, { on := 8, ground := Ground.phase }, { on := 9, ground := Ground.phase }, { on := 10, ground := Ground.phase }, { on := 11, ground := Ground.phase }, { on := 12, ground := Ground.phase }, { on := 13, ground := Ground.phase }, { on := 14, ground := Ground.phase }, { on := 15, ground := Ground.phase }, { on := 16, ground := Ground.phase }], guard := none }) (v := ?pav17) rfl (by kernel_rfl) (by kernel_rfl) (by kernel_rfl) (fun _ _ _ h => h) (Or.inl ⟨by rfl, ?pah17⟩) (by assumption) ?par17
 case pah17 => ((intro w hSw; (try dsimp only at hSw); go_simp); try with_reducible rfl)
 try simp only [Act.put, List.setIfInBounds_toArray, List.set_cons_zero, List.set_cons_succ]
 refine wpAnyH_done (by kernel_rfl) ?_ _
 go_wp2_with fail
 go_ret
 exact ⟨by rw [HO.out]; rfl, by (obtain ⟨q, os', h⟩ := HBD.out; exact ⟨q, os' ++ #[_], by rw [h, Go.Sort.alloc_eq_grow, Go.Sort.grow_grow]⟩)⟩
end Go.Proofs.Ythlingholhjcnaa
