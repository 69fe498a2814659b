/-
  The code's Clone.
-/
import Derived.Test.YteccpmmedpkddaaJN7
namespace Go.Proofs.Yteccpmmedpkddaa
open Go.RowKit
variable {W w w' : World} {B gs gy k : Nat} {secs : List Sc} {syms : List Sy}
/-- What Clone gives. -/
structure CloT (W : World) (o : Ob) (e : Ending) (w' : World) : Prop where
  ex : ∃ gs gy secs, e = .returned (.agg #[.slice (some ⟨gs, 0, none⟩) o.secs.length o.secs.length, .slice (some ⟨gy, 0, none⟩) o.syms.length o.syms.length]) ∧ FrO W.heap.size w' gs gy secs o.syms secs.length ∧ secs.map Sc.con = o.secs.map Sc.con
  b : Below W.heap.size W w'
/-- Between two sections. -/
structure CloI (W : World) (o : Ob) (g gs gy k : Nat) (secs : List Sc) (w : World) : Prop where
  fr : FrO W.heap.size w gs gy secs o.syms k
  con : secs.map Sc.con = o.secs.map Sc.con
  rest : ∀ i, k ≤ i → secs[i]? = o.secs[i]?
  box : w.heap[g]? = some (.cells #[.slice (some ⟨gs, 0, none⟩) o.secs.length o.secs.length, .slice (some ⟨gy, 0, none⟩) o.syms.length o.syms.length] 25 (0, 0))
  res : w.heap[W.heap.size + 1]? = some (.cells #[.slice none 0 0, .slice none 0 0] 25 (0, 0))
  b : Below W.heap.size W w
theorem CloI.tags {o : Ob} {g : Nat} (h : CloI W o g gs gy k secs w) : gs ≠ g ∧ gs ≠ W.heap.size + 1 ∧ gy ≠ g ∧ gy ≠ W.heap.size + 1 := by
  have t1 := own_tag h.fr.os rfl
  have t2 := own_tag h.fr.oy rfl
  have t3 := tag_row h.box
  have t4 := tag_row h.res
  exact ⟨tag_ne t1 t3 (by decide), tag_ne t1 t4 (by decide), tag_ne t2 t3 (by decide), tag_ne t2 t4 (by decide)⟩
theorem CloI.below {o : Ob} {g : Nat} (h : CloI W o g gs gy k secs w) (hb : Below w.heap.size w w') : CloI W o g gs gy k secs w' :=
  ⟨h.fr.below hb, h.con, h.rest, (hb.block _ (Array.getElem?_eq_some_iff.1 h.box).1).trans h.box, (hb.block _ (Array.getElem?_eq_some_iff.1 h.res).1).trans h.res, h.b.trans (hb.mono h.b.size)⟩
theorem CloI.step {o : Ob} {g : Nat} (h : CloI W o g gs gy k secs w) {s : Sc} (hs : secs[k]? = some s) {w1 : World} (hb1 : Below w.heap.size w w1) {p2 : Option Addr} {c2 : Nat} (ho1 : w1.ownsRow w.heap.size 5 1 (.slice p2 s.data.length c2) s.data.length (s.data.map (Value.int .u8)))
    {w3 : World} (hb3 : Below (w1.setCell ⟨gs, k * 6 + 4, none⟩ (.slice p2 s.data.length c2)).heap.size (w1.setCell ⟨gs, k * 6 + 4, none⟩ (.slice p2 s.data.length c2)) w3) {p4 : Option Addr} {c4 : Nat} (ho3 : w3.ownsRow (w1.setCell ⟨gs, k * 6 + 4, none⟩ (.slice p2 s.data.length c2)).heap.size 54 4 (.slice p4 s.rel.length c4) s.rel.length (s.rel.flatMap Rl.cells)) :
    CloI W o g gs gy (k + 1) (secs.set k { s with dp := p2, dc := c2, rp := p4, rc := c4 }) (w3.setCell ⟨gs, k * 6 + 5, none⟩ (.slice p4 s.rel.length c4)) := by
  have ht := h.tags
  have hbase := h.fr.base
  have h1 := h.below hb1
  have hk : k < secs.length := (List.getElem?_eq_some_iff.1 hs).1
  have hsz2 : (w1.setCell ⟨gs, k * 6 + 4, none⟩ (.slice p2 s.data.length c2)).heap.size = w1.heap.size := by simp
  have hzg : g < w1.heap.size := (Array.getElem?_eq_some_iff.1 h1.box).1
  have hzr : W.heap.size + 1 < w1.heap.size := (Array.getElem?_eq_some_iff.1 h1.res).1
  have hkeep : ∀ q, q < w1.heap.size → q ≠ gs → (w3.setCell ⟨gs, k * 6 + 5, none⟩ (.slice p4 s.rel.length c4)).heap[q]? = w1.heap[q]? := fun q hq hne =>
    (heap_setCell_other _ _ _ _ hne).trans ((hb3.block q (by rw [hsz2]; exact hq)).trans (heap_setCell_other _ _ _ _ hne))
  refine ⟨h.fr.step hs hb1 ho1 hb3 ho3, ?_, fun i hi => ?_, (hkeep g hzg (fun e => ht.1 e.symm)).trans h1.box, (hkeep _ hzr (fun e => ht.2.1 e.symm)).trans h1.res, ?_⟩
  · rw [List.map_set, ← h.con]
    have : (secs.map Sc.con)[k]? = some ({ s with dp := p2, dc := c2, rp := p4, rc := c4 } : Sc).con := by rw [List.getElem?_map, hs]; rfl
    exact List.ext_getElem? fun i => by
      by_cases e : k = i
      · subst e; rw [List.getElem?_set_self (by simpa using hk), this]
      · rw [List.getElem?_set_ne e]
  · rw [List.getElem?_set_ne (by omega)]; exact h.rest i (by omega)
  · have := (h1.b.setCell (p := ⟨gs, k * 6 + 4, none⟩) hbase.1 (.slice p2 s.data.length c2)).trans (hb3.mono (by rw [hsz2]; exact h1.b.size))
    exact this.setCell (p := ⟨gs, k * 6 + 5, none⟩) hbase.1 _
set_option maxRecDepth 40000 in
set_option maxHeartbeats 8000000 in
theorem clone_any (o : Ob) (W : World) (ho : o.rd W) (hn0 : o.secs.length ≤ 100000) (hm0 : o.syms.length ≤ 100000) : Calls Try.prog 28 #[.agg o.cells.toArray] W (CloT W o) := by
  have HO := hid ho
  obtain ⟨n, hn⟩ : ∃ n, n = o.secs.length := ⟨_, rfl⟩
  obtain ⟨m, hm⟩ : ∃ n, n = o.syms.length := ⟨_, rfl⟩
  have HN := hid (And.intro hn hm)
  obtain ⟨W1, hW1⟩ : ∃ W1, W1 = W.alloc (.cells o.cells.toArray 25) := ⟨_, rfl⟩
  obtain ⟨W2, hW2⟩ : ∃ W2, W2 = W1.alloc (.cells #[.slice none 0 0, .slice none 0 0] 25) := ⟨_, rfl⟩
  have hz1 : W1.heap.size = W.heap.size + 1 := by rw [hW1]; simp
  have hz2 : W2.heap.size = W.heap.size + 1 + 1 := by rw [hW2]; simp [hz1]
  have hb2 : Below W.heap.size W W2 := by rw [hW2, hW1]; exact ((Below.refl _ _).alloc (Nat.le_refl _) _).alloc (by simp) _
  have hy1 : W2.heap[W.heap.size]? = some (.cells o.cells.toArray 25 (0, 0)) := by rw [hW2, hW1]; exact (Below.heap_alloc _ _ _ (by simp)).trans (heap_alloc_new _ _)
  have hy2 : W2.heap[W.heap.size + 1]? = some (.cells #[.slice none 0 0, .slice none 0 0] 25 (0, 0)) := by
    have := heap_alloc_new W1 (.cells #[.slice none 0 0, .slice none 0 0] 25)
    rw [hz1] at this
    rw [hW2]; exact this
  have HY := hid (And.intro hy1 hy2)
  have HC : Hid (∀ w', Below W2.heap.size W2 w' → w'.cell? ⟨W.heap.size, 0, none⟩ = some (.slice o.sp n o.sc) ∧ w'.cell? ⟨W.heap.size, 1, none⟩ = some (.slice o.yp m o.yc)) := fun w' hw => by
    rw [hn, hm]; exact obx_cells ((hw.block _ (by omega)).trans hy1)
  have HB2 := hid hb2
  have HBB : Hid (∀ w', Below W2.heap.size W2 w' → Below W.heap.size W w') := fun w' h => hb2.trans (h.mono hb2.size)
  have HZ := hid hz2
  have HW1 := hid hW1
  have HW2 := hid hW2
  rw [← hn] at hn0
  rw [← hm] at hm0
  unfold Ob.cells at HW1
  rw [← hn, ← hm] at HW1
  show Calls Try.prog 28 #[.agg #[.slice o.sp o.secs.length o.sc, .slice o.yp o.syms.length o.yc]] W _
  rw [← hn, ← hm]
  clear ho hn hm hW1 hW2 hb2 hy1 hy2 hz1 hz2
  go_enter Try.func28, Try.ntmps28
  go_upto_region 1 with (fail)
  rw [← HW1.out, ← HW2.out]
  go_cut [3] from 6 to 14 (fun u wx => ∃ g gs gy : Nat, ∃ xs ys, u = .pointer (some ⟨g, 0, none⟩) ∧ wx.heap[g]? = some (.cells #[.slice (some ⟨gs, 0, none⟩) n n, .slice (some ⟨gy, 0, none⟩) m m] 25 (0, 0)) ∧ wx.ownsRow W2.heap.size 40 6 (.slice (some ⟨gs, 0, none⟩) n n) n xs ∧ wx.ownsRow W2.heap.size 36 4 (.slice (some ⟨gy, 0, none⟩) m m) m ys ∧ Below W2.heap.size W2 wx ∧ W2.heap.size ≤ g)
  case first =>
    obtain ⟨wd, hwd⟩ : ∃ wd, wd = W2.drew := ⟨_, rfl⟩
    have hbd : Below W2.heap.size W2 wd := by rw [hwd]; exact (Below.refl _ _).drew
    have HBD := hid hbd
    have hsz := hbd.size
    have HSZ := hid hsz
    have c0 := fun w' hw => (HC.out w' hw).1
    have c1 := fun w' hw => (HC.out w' hw).2
    refine wp_region_held_drew (S := fun w' => Below W2.heap.size W2 w') (by kernel_rfl) (by rw [← hwd]; exact hbd) (fun hHeld => ?_)
    rw [← hwd] at *
    refine wpAnyH_take (i := 0) (oi := { dst := some 6, op := Op.fieldAddr 25 (Operand.tmp 1) 0, type := 0, pos := "object.go:146", after := #[], guard := none }) (v := ?pav0) rfl (by kernel_rfl) (by kernel_rfl) (by kernel_rfl) (fun _ _ _ h => h) (Or.inl ⟨by rfl, ?pah0⟩) (by assumption) ?par0
    case pah0 => ((intro w hSw; (try dsimp only at hSw); go_simp); try with_reducible rfl)
    try simp only [Act.put, List.setIfInBounds_toArray, List.set_cons_zero, List.set_cons_succ]
    refine wpAnyH_take (i := 1) (oi := { dst := some 7, op := Op.load 22 (Operand.tmp 6), type := 22, pos := "object.go:146", after := #[{ on := 0, ground := Ground.data }], guard := none }) (v := ?pav1) rfl (by kernel_rfl) (by kernel_rfl) (by kernel_rfl) (fun _ _ _ h => h) (Or.inl ⟨by rfl, ?pah1⟩) (by assumption) ?par1
    case pah1 => ((intro w hSw; (try dsimp only at hSw); go_simp); try with_reducible rfl)
    try simp only [Act.put, List.setIfInBounds_toArray, List.set_cons_zero, List.set_cons_succ]
    refine wpAnyH_take (i := 2) (oi := { dst := some 8, op := Op.call { callee := Callee.builtin Builtin.len, args := #[Operand.tmp 7], argTypes := #[22] }, type := 3, pos := "object.go:146", after := #[{ on := 1, ground := Ground.data }], guard := none }) (v := ?pav2) rfl (by kernel_rfl) (by kernel_rfl) (by kernel_rfl) (fun _ _ _ h => h) (Or.inl ⟨by rfl, ?pah2⟩) (by assumption) ?par2
    case pah2 => ((intro w hSw; (try dsimp only at hSw); go_simp); try with_reducible rfl)
    try simp only [Act.put, List.setIfInBounds_toArray, List.set_cons_zero, List.set_cons_succ]
    refine wpAnyH_take (i := 4) (oi := { dst := some 10, op := Op.fieldAddr 25 (Operand.tmp 1) 1, type := 0, pos := "object.go:146", after := #[], guard := none }) (v := ?pav4) rfl (by kernel_rfl) (by kernel_rfl) (by kernel_rfl) (fun _ _ _ h => h) (Or.inl ⟨by rfl, ?pah4⟩) (by assumption) ?par4
    case pah4 => ((intro w hSw; (try dsimp only at hSw); go_simp); try with_reducible rfl)
    try simp only [Act.put, List.setIfInBounds_toArray, List.set_cons_zero, List.set_cons_succ]
    refine wpAnyH_take (i := 5) (oi := { dst := some 11, op := Op.load 23 (Operand.tmp 10), type := 23, pos := "object.go:146", after := #[{ on := 4, ground := Ground.data }], guard := none }) (v := ?pav5) rfl (by kernel_rfl) (by kernel_rfl) (by kernel_rfl) (fun _ _ _ h => h) (Or.inl ⟨by rfl, ?pah5⟩) (by assumption) ?par5
    case pah5 => ((intro w hSw; (try dsimp only at hSw); go_simp); try with_reducible rfl)
    try simp only [Act.put, List.setIfInBounds_toArray, List.set_cons_zero, List.set_cons_succ]
    refine wpAnyH_take (i := 6) (oi := { dst := some 12, op := Op.call { callee := Callee.builtin Builtin.len, args := #[Operand.tmp 11], argTypes := #[23] }, type := 3, pos := "object.go:146", after := #[{ on := 5, ground := Ground.data }], guard := none }) (v := ?pav6) rfl (by kernel_rfl) (by kernel_rfl) (by kernel_rfl) (fun _ _ _ h => h) (Or.inl ⟨by rfl, ?pah6⟩) (by assumption) ?par6
    case pah6 => ((intro w hSw; (try dsimp only at hSw); go_simp); try with_reducible rfl)
    try simp only [Act.put, List.setIfInBounds_toArray, List.set_cons_zero, List.set_cons_succ]
    refine wpAnyH_ready (rs := [3, 7, 9]) (by kernel_rfl) (by simp) ?_
    refine AllReadyH.cons (o := { dst := some 9, op := Op.makeSlice 22 (Operand.tmp 8) (Operand.tmp 8), type := 22, pos := "object.go:146", after := #[{ on := 2, ground := Ground.data }, { on := 2, ground := Ground.data }], guard := none }) rfl (fun K hK => ?_) ?_
    · (refine step_mk ESec rfl (.tmp 8) (.tmp 8) rfl W2.heap.size .i64 .i64 n rfl rfl (by omega) (by unfold maxLen; omega) hHeld.size ?_); intro w5 ho5 hg5; have HA := hid ho5; (try have HB := hid (own_below HB.out (below_none hg5))); (try have HX := hid (((below_none hg5).block _ HXL.out).trans HX.out)); (try have HXL := hid (Nat.lt_of_lt_of_le HXL.out hg5.size)); refine hK.out _ _ (hHeld.trans ((below_none hg5).mono hHeld.size)) (fun hHeld => ?_)
      clear hK K
      try simp only [Act.put, List.setIfInBounds_toArray, List.set_cons_zero, List.set_cons_succ]
      refine wpAnyH_ready (rs := [7, 9]) (by kernel_rfl) (by simp) ?_
      refine AllReadyH.cons (o := { dst := some 13, op := Op.makeSlice 23 (Operand.tmp 12) (Operand.tmp 12), type := 23, pos := "object.go:146", after := #[{ on := 6, ground := Ground.data }, { on := 6, ground := Ground.data }], guard := none }) rfl (fun K hK => ?_) ?_
      · (refine step_mk ESym rfl (.tmp 12) (.tmp 12) rfl W2.heap.size .i64 .i64 m rfl rfl (by omega) (by unfold maxLen; omega) hHeld.size ?_); intro w6 ho6 hg6; have HB := hid ho6; (try have HA := hid (own_below HA.out (below_none hg6))); (try have HX := hid (((below_none hg6).block _ HXL.out).trans HX.out)); (try have HXL := hid (Nat.lt_of_lt_of_le HXL.out hg6.size)); refine hK.out _ _ (hHeld.trans ((below_none hg6).mono hHeld.size)) (fun hHeld => ?_)
        clear hK K
        try simp only [Act.put, List.setIfInBounds_toArray, List.set_cons_zero, List.set_cons_succ]
        refine wpAnyH_take (i := 8) (oi := { dst := some 14, op := Op.build 25 #[(0, Operand.tmp 9), (1, Operand.tmp 13)], type := 25, pos := "object.go:146", after := #[{ on := 3, ground := Ground.data }, { on := 7, ground := Ground.data }], guard := none }) (v := ?paaav8) rfl (by kernel_rfl) (by kernel_rfl) (by kernel_rfl) (fun _ _ _ h => h) (Or.inl ⟨by rfl, ?paaah8⟩) (by assumption) ?paaar8
        case paaah8 => ((intro w hSw; (try dsimp only at hSw); go_simp); try with_reducible rfl)
        try simp only [Act.put, List.setIfInBounds_toArray, List.set_cons_zero, List.set_cons_succ]
        refine wpAnyH_ready (rs := [9]) (by kernel_rfl) (by simp) ?_
        refine AllReadyH.cons (o := { dst := some 3, op := Op.alloc 25, type := 0, pos := "object.go:146", after := #[], guard := none }) rfl (fun K hK => ?_) AllReadyH.nil
        go_simp; generalize hw9 : World.alloc _ _ = w9; have h9 := of_alloc hw9; clear hw9; (try have HA := hid (own_below HA.out h9.1)); (try have HB := hid (own_below HB.out h9.1)); have HX := hid h9.2.1; have HXL := hid h9.2.2; have HGE := hid hHeld.size; have HH9 := hid (hHeld.trans (h9.1.mono hHeld.size)); clear h9; refine hK.out _ _ HH9.out (fun hHeld => ?_)
        clear hK K
        try simp only [Act.put, List.setIfInBounds_toArray, List.set_cons_zero, List.set_cons_succ]
        refine wpAnyH_ready (rs := [10]) (by kernel_rfl) (by simp) ?_
        refine AllReadyH.cons (o := { dst := none, op := Op.store 25 (Operand.tmp 3) (Operand.tmp 14), type := 0, pos := "object.go:146", after := #[{ on := 9, ground := Ground.data }, { on := 8, ground := Ground.data }, { on := 0, ground := Ground.phase }, { on := 1, ground := Ground.phase }, { on := 2, ground := Ground.phase }, { on := 3, ground := Ground.phase }, { on := 4, ground := Ground.phase }, { on := 5, ground := Ground.phase }, { on := 6, ground := Ground.phase }, { on := 7, ground := Ground.phase }, { on := 8, ground := Ground.phase }, { on := 9, ground := Ground.phase }], guard := none }) rfl (fun K hK => ?_) AllReadyH.nil
        have z0 := cell_of_row _ _ 0 _ _ _ HX.out; have z1 := cell_of_row _ _ 1 _ _ _ HX.out; have zf0 := frozen_of_row _ _ 0 _ _ HX.out; have zf1 := frozen_of_row _ _ 1 _ _ HX.out; simp only [List.getElem?_toArray, List.getElem?_cons_zero, List.getElem?_cons_succ] at z0 z1; go_simp; refine hK.out _ _ ((hHeld.setCell HGE.out _).setCell HGE.out _) (fun hHeld => ?_)
        clear hK K
        try simp only [Act.put, List.setIfInBounds_toArray, List.set_cons_zero, List.set_cons_succ]
        refine wpAnyH_done (by kernel_rfl) ?_ _
        go_wp2_with fail
        go_meet
        exact ⟨_, _, _, _, _, rfl, heap_setCell_same _ _ 1 _ _ _ (heap_setCell_same _ _ 0 _ _ _ HX.out), own_setO (own_setO HA.out _ _ (fun q e => tag_ne (own_tag HA.out e) (tag_row HX.out) (by decide))) _ _ (fun q e => tag_ne (own_tag HA.out e) (tag_row HX.out) (by decide)), own_setO (own_setO HB.out _ _ (fun q e => tag_ne (own_tag HB.out e) (tag_row HX.out) (by decide))) _ _ (fun q e => tag_ne (own_tag HB.out e) (tag_row HX.out) (by decide)), hHeld, HGE.out⟩
      refine AllReadyH.cons (o := { dst := some 3, op := Op.alloc 25, type := 0, pos := "object.go:146", after := #[], guard := none }) rfl (fun K hK => ?_) AllReadyH.nil
      go_simp; generalize hw9 : World.alloc _ _ = w9; have h9 := of_alloc hw9; clear hw9; (try have HA := hid (own_below HA.out h9.1)); (try have HB := hid (own_below HB.out h9.1)); have HX := hid h9.2.1; have HXL := hid h9.2.2; have HGE := hid hHeld.size; have HH9 := hid (hHeld.trans (h9.1.mono hHeld.size)); clear h9; refine hK.out _ _ HH9.out (fun hHeld => ?_)
      clear hK K
      try simp only [Act.put, List.setIfInBounds_toArray, List.set_cons_zero, List.set_cons_succ]
      refine wpAnyH_ready (rs := [7]) (by kernel_rfl) (by simp) ?_
      refine AllReadyH.cons (o := { dst := some 13, op := Op.makeSlice 23 (Operand.tmp 12) (Operand.tmp 12), type := 23, pos := "object.go:146", after := #[{ on := 6, ground := Ground.data }, { on := 6, ground := Ground.data }], guard := none }) rfl (fun K hK => ?_) AllReadyH.nil
      (refine step_mk ESym rfl (.tmp 12) (.tmp 12) rfl W2.heap.size .i64 .i64 m rfl rfl (by omega) (by unfold maxLen; omega) hHeld.size ?_); intro w6 ho6 hg6; have HB := hid ho6; (try have HA := hid (own_below HA.out (below_none hg6))); (try have HX := hid (((below_none hg6).block _ HXL.out).trans HX.out)); (try have HXL := hid (Nat.lt_of_lt_of_le HXL.out hg6.size)); refine hK.out _ _ (hHeld.trans ((below_none hg6).mono hHeld.size)) (fun hHeld => ?_)
      clear hK K
      try simp only [Act.put, List.setIfInBounds_toArray, List.set_cons_zero, List.set_cons_succ]
      refine wpAnyH_take (i := 8) (oi := { dst := some 14, op := Op.build 25 #[(0, Operand.tmp 9), (1, Operand.tmp 13)], type := 25, pos := "object.go:146", after := #[{ on := 3, ground := Ground.data }, { on := 7, ground := Ground.data }], guard := none }) (v := ?paabv8) rfl (by kernel_rfl) (by kernel_rfl) (by kernel_rfl) (fun _ _ _ h => h) (Or.inl ⟨by rfl, ?paabh8⟩) (by assumption) ?paabr8
      case paabh8 => ((intro w hSw; (try dsimp only at hSw); go_simp); try with_reducible rfl)
      try simp only [Act.put, List.setIfInBounds_toArray, List.set_cons_zero, List.set_cons_succ]
      refine wpAnyH_ready (rs := [10]) (by kernel_rfl) (by simp) ?_
      refine AllReadyH.cons (o := { dst := none, op := Op.store 25 (Operand.tmp 3) (Operand.tmp 14), type := 0, pos := "object.go:146", after := #[{ on := 9, ground := Ground.data }, { on := 8, ground := Ground.data }, { on := 0, ground := Ground.phase }, { on := 1, ground := Ground.phase }, { on := 2, ground := Ground.phase }, { on := 3, ground := Ground.phase }, { on := 4, ground := Ground.phase }, { on := 5, ground := Ground.phase }, { on := 6, ground := Ground.phase }, { on := 7, ground := Ground.phase }, { on := 8, ground := Ground.phase }, { on := 9, ground := Ground.phase }], guard := none }) rfl (fun K hK => ?_) AllReadyH.nil
      have z0 := cell_of_row _ _ 0 _ _ _ HX.out; have z1 := cell_of_row _ _ 1 _ _ _ HX.out; have zf0 := frozen_of_row _ _ 0 _ _ HX.out; have zf1 := frozen_of_row _ _ 1 _ _ HX.out; simp only [List.getElem?_toArray, List.getElem?_cons_zero, List.getElem?_cons_succ] at z0 z1; go_simp; refine hK.out _ _ ((hHeld.setCell HGE.out _).setCell HGE.out _) (fun hHeld => ?_)
      clear hK K
      try simp only [Act.put, List.setIfInBounds_toArray, List.set_cons_zero, List.set_cons_succ]
      refine wpAnyH_done (by kernel_rfl) ?_ _
      go_wp2_with fail
      go_meet
      exact ⟨_, _, _, _, _, rfl, heap_setCell_same _ _ 1 _ _ _ (heap_setCell_same _ _ 0 _ _ _ HX.out), own_setO (own_setO HA.out _ _ (fun q e => tag_ne (own_tag HA.out e) (tag_row HX.out) (by decide))) _ _ (fun q e => tag_ne (own_tag HA.out e) (tag_row HX.out) (by decide)), own_setO (own_setO HB.out _ _ (fun q e => tag_ne (own_tag HB.out e) (tag_row HX.out) (by decide))) _ _ (fun q e => tag_ne (own_tag HB.out e) (tag_row HX.out) (by decide)), hHeld, HGE.out⟩
    refine AllReadyH.cons (o := { dst := some 13, op := Op.makeSlice 23 (Operand.tmp 12) (Operand.tmp 12), type := 23, pos := "object.go:146", after := #[{ on := 6, ground := Ground.data }, { on := 6, ground := Ground.data }], guard := none }) rfl (fun K hK => ?_) ?_
    · (refine step_mk ESym rfl (.tmp 12) (.tmp 12) rfl W2.heap.size .i64 .i64 m rfl rfl (by omega) (by unfold maxLen; omega) hHeld.size ?_); intro w6 ho6 hg6; have HB := hid ho6; (try have HA := hid (own_below HA.out (below_none hg6))); (try have HX := hid (((below_none hg6).block _ HXL.out).trans HX.out)); (try have HXL := hid (Nat.lt_of_lt_of_le HXL.out hg6.size)); refine hK.out _ _ (hHeld.trans ((below_none hg6).mono hHeld.size)) (fun hHeld => ?_)
      clear hK K
      try simp only [Act.put, List.setIfInBounds_toArray, List.set_cons_zero, List.set_cons_succ]
      refine wpAnyH_ready (rs := [3, 9]) (by kernel_rfl) (by simp) ?_
      refine AllReadyH.cons (o := { dst := some 9, op := Op.makeSlice 22 (Operand.tmp 8) (Operand.tmp 8), type := 22, pos := "object.go:146", after := #[{ on := 2, ground := Ground.data }, { on := 2, ground := Ground.data }], guard := none }) rfl (fun K hK => ?_) ?_
      · (refine step_mk ESec rfl (.tmp 8) (.tmp 8) rfl W2.heap.size .i64 .i64 n rfl rfl (by omega) (by unfold maxLen; omega) hHeld.size ?_); intro w5 ho5 hg5; have HA := hid ho5; (try have HB := hid (own_below HB.out (below_none hg5))); (try have HX := hid (((below_none hg5).block _ HXL.out).trans HX.out)); (try have HXL := hid (Nat.lt_of_lt_of_le HXL.out hg5.size)); refine hK.out _ _ (hHeld.trans ((below_none hg5).mono hHeld.size)) (fun hHeld => ?_)
        clear hK K
        try simp only [Act.put, List.setIfInBounds_toArray, List.set_cons_zero, List.set_cons_succ]
        refine wpAnyH_take (i := 8) (oi := { dst := some 14, op := Op.build 25 #[(0, Operand.tmp 9), (1, Operand.tmp 13)], type := 25, pos := "object.go:146", after := #[{ on := 3, ground := Ground.data }, { on := 7, ground := Ground.data }], guard := none }) (v := ?pabav8) rfl (by kernel_rfl) (by kernel_rfl) (by kernel_rfl) (fun _ _ _ h => h) (Or.inl ⟨by rfl, ?pabah8⟩) (by assumption) ?pabar8
        case pabah8 => ((intro w hSw; (try dsimp only at hSw); go_simp); try with_reducible rfl)
        try simp only [Act.put, List.setIfInBounds_toArray, List.set_cons_zero, List.set_cons_succ]
        refine wpAnyH_ready (rs := [9]) (by kernel_rfl) (by simp) ?_
        refine AllReadyH.cons (o := { dst := some 3, op := Op.alloc 25, type := 0, pos := "object.go:146", after := #[], guard := none }) rfl (fun K hK => ?_) AllReadyH.nil
        go_simp; generalize hw9 : World.alloc _ _ = w9; have h9 := of_alloc hw9; clear hw9; (try have HA := hid (own_below HA.out h9.1)); (try have HB := hid (own_below HB.out h9.1)); have HX := hid h9.2.1; have HXL := hid h9.2.2; have HGE := hid hHeld.size; have HH9 := hid (hHeld.trans (h9.1.mono hHeld.size)); clear h9; refine hK.out _ _ HH9.out (fun hHeld => ?_)
        clear hK K
        try simp only [Act.put, List.setIfInBounds_toArray, List.set_cons_zero, List.set_cons_succ]
        refine wpAnyH_ready (rs := [10]) (by kernel_rfl) (by simp) ?_
        refine AllReadyH.cons (o := { dst := none, op := Op.store 25 (Operand.tmp 3) (Operand.tmp 14), type := 0, pos := "object.go:146", after := #[{ on := 9, ground := Ground.data }, { on := 8, ground := Ground.data }, { on := 0, ground := Ground.phase }, { on := 1, ground := Ground.phase }, { on := 2, ground := Ground.phase }, { on := 3, ground := Ground.phase }, { on := 4, ground := Ground.phase }, { on := 5, ground := Ground.phase }, { on := 6, ground := Ground.phase }, { on := 7, ground := Ground.phase }, { on := 8, ground := Ground.phase }, { on := 9, ground := Ground.phase }], guard := none }) rfl (fun K hK => ?_) AllReadyH.nil
        have z0 := cell_of_row _ _ 0 _ _ _ HX.out; have z1 := cell_of_row _ _ 1 _ _ _ HX.out; have zf0 := frozen_of_row _ _ 0 _ _ HX.out; have zf1 := frozen_of_row _ _ 1 _ _ HX.out; simp only [List.getElem?_toArray, List.getElem?_cons_zero, List.getElem?_cons_succ] at z0 z1; go_simp; refine hK.out _ _ ((hHeld.setCell HGE.out _).setCell HGE.out _) (fun hHeld => ?_)
        clear hK K
        try simp only [Act.put, List.setIfInBounds_toArray, List.set_cons_zero, List.set_cons_succ]
        refine wpAnyH_done (by kernel_rfl) ?_ _
        go_wp2_with fail
        go_meet
        exact ⟨_, _, _, _, _, rfl, heap_setCell_same _ _ 1 _ _ _ (heap_setCell_same _ _ 0 _ _ _ HX.out), own_setO (own_setO HA.out _ _ (fun q e => tag_ne (own_tag HA.out e) (tag_row HX.out) (by decide))) _ _ (fun q e => tag_ne (own_tag HA.out e) (tag_row HX.out) (by decide)), own_setO (own_setO HB.out _ _ (fun q e => tag_ne (own_tag HB.out e) (tag_row HX.out) (by decide))) _ _ (fun q e => tag_ne (own_tag HB.out e) (tag_row HX.out) (by decide)), hHeld, HGE.out⟩
      refine AllReadyH.cons (o := { dst := some 3, op := Op.alloc 25, type := 0, pos := "object.go:146", after := #[], guard := none }) rfl (fun K hK => ?_) AllReadyH.nil
      go_simp; generalize hw9 : World.alloc _ _ = w9; have h9 := of_alloc hw9; clear hw9; (try have HA := hid (own_below HA.out h9.1)); (try have HB := hid (own_below HB.out h9.1)); have HX := hid h9.2.1; have HXL := hid h9.2.2; have HGE := hid hHeld.size; have HH9 := hid (hHeld.trans (h9.1.mono hHeld.size)); clear h9; refine hK.out _ _ HH9.out (fun hHeld => ?_)
      clear hK K
      try simp only [Act.put, List.setIfInBounds_toArray, List.set_cons_zero, List.set_cons_succ]
      refine wpAnyH_ready (rs := [3]) (by kernel_rfl) (by simp) ?_
      refine AllReadyH.cons (o := { dst := some 9, op := Op.makeSlice 22 (Operand.tmp 8) (Operand.tmp 8), type := 22, pos := "object.go:146", after := #[{ on := 2, ground := Ground.data }, { on := 2, ground := Ground.data }], guard := none }) rfl (fun K hK => ?_) AllReadyH.nil
      (refine step_mk ESec rfl (.tmp 8) (.tmp 8) rfl W2.heap.size .i64 .i64 n rfl rfl (by omega) (by unfold maxLen; omega) hHeld.size ?_); intro w5 ho5 hg5; have HA := hid ho5; (try have HB := hid (own_below HB.out (below_none hg5))); (try have HX := hid (((below_none hg5).block _ HXL.out).trans HX.out)); (try have HXL := hid (Nat.lt_of_lt_of_le HXL.out hg5.size)); refine hK.out _ _ (hHeld.trans ((below_none hg5).mono hHeld.size)) (fun hHeld => ?_)
      clear hK K
      try simp only [Act.put, List.setIfInBounds_toArray, List.set_cons_zero, List.set_cons_succ]
      refine wpAnyH_take (i := 8) (oi := { dst := some 14, op := Op.build 25 #[(0, Operand.tmp 9), (1, Operand.tmp 13)], type := 25, pos := "object.go:146", after := #[{ on := 3, ground := Ground.data }, { on := 7, ground := Ground.data }], guard := none }) (v := ?pabbv8) rfl (by kernel_rfl) (by kernel_rfl) (by kernel_rfl) (fun _ _ _ h => h) (Or.inl ⟨by rfl, ?pabbh8⟩) (by assumption) ?pabbr8
      case pabbh8 => ((intro w hSw; (try dsimp only at hSw); go_simp); try with_reducible rfl)
      try simp only [Act.put, List.setIfInBounds_toArray, List.set_cons_zero, List.set_cons_succ]
      refine wpAnyH_ready (rs := [10]) (by kernel_rfl) (by simp) ?_
      refine AllReadyH.cons (o := { dst := none, op := Op.store 25 (Operand.tmp 3) (Operand.tmp 14), type := 0, pos := "object.go:146", after := #[{ on := 9, ground := Ground.data }, { on := 8, ground := Ground.data }, { on := 0, ground := Ground.phase }, { on := 1, ground := Ground.phase }, { on := 2, ground := Ground.phase }, { on := 3, ground := Ground.phase }, { on := 4, ground := Ground.phase }, { on := 5, ground := Ground.phase }, { on := 6, ground := Ground.phase }, { on := 7, ground := Ground.phase }, { on := 8, ground := Ground.phase }, { on := 9, ground := Ground.phase }], guard := none }) rfl (fun K hK => ?_) AllReadyH.nil
      have z0 := cell_of_row _ _ 0 _ _ _ HX.out; have z1 := cell_of_row _ _ 1 _ _ _ HX.out; have zf0 := frozen_of_row _ _ 0 _ _ HX.out; have zf1 := frozen_of_row _ _ 1 _ _ HX.out; simp only [List.getElem?_toArray, List.getElem?_cons_zero, List.getElem?_cons_succ] at z0 z1; go_simp; refine hK.out _ _ ((hHeld.setCell HGE.out _).setCell HGE.out _) (fun hHeld => ?_)
      clear hK K
      try simp only [Act.put, List.setIfInBounds_toArray, List.set_cons_zero, List.set_cons_succ]
      refine wpAnyH_done (by kernel_rfl) ?_ _
      go_wp2_with fail
      go_meet
      exact ⟨_, _, _, _, _, rfl, heap_setCell_same _ _ 1 _ _ _ (heap_setCell_same _ _ 0 _ _ _ HX.out), own_setO (own_setO HA.out _ _ (fun q e => tag_ne (own_tag HA.out e) (tag_row HX.out) (by decide))) _ _ (fun q e => tag_ne (own_tag HA.out e) (tag_row HX.out) (by decide)), own_setO (own_setO HB.out _ _ (fun q e => tag_ne (own_tag HB.out e) (tag_row HX.out) (by decide))) _ _ (fun q e => tag_ne (own_tag HB.out e) (tag_row HX.out) (by decide)), hHeld, HGE.out⟩
    refine AllReadyH.cons (o := { dst := some 3, op := Op.alloc 25, type := 0, pos := "object.go:146", after := #[], guard := none }) rfl (fun K hK => ?_) AllReadyH.nil
    go_simp; generalize hw9 : World.alloc _ _ = w9; have h9 := of_alloc hw9; clear hw9; (try have HA := hid (own_below HA.out h9.1)); (try have HB := hid (own_below HB.out h9.1)); have HX := hid h9.2.1; have HXL := hid h9.2.2; have HGE := hid hHeld.size; have HH9 := hid (hHeld.trans (h9.1.mono hHeld.size)); clear h9; refine hK.out _ _ HH9.out (fun hHeld => ?_)
    clear hK K
    try simp only [Act.put, List.setIfInBounds_toArray, List.set_cons_zero, List.set_cons_succ]
    refine wpAnyH_ready (rs := [3, 7]) (by kernel_rfl) (by simp) ?_
    refine AllReadyH.cons (o := { dst := some 9, op := Op.makeSlice 22 (Operand.tmp 8) (Operand.tmp 8), type := 22, pos := "object.go:146", after := #[{ on := 2, ground := Ground.data }, { on := 2, ground := Ground.data }], guard := none }) rfl (fun K hK => ?_) ?_
    · (refine step_mk ESec rfl (.tmp 8) (.tmp 8) rfl W2.heap.size .i64 .i64 n rfl rfl (by omega) (by unfold maxLen; omega) hHeld.size ?_); intro w5 ho5 hg5; have HA := hid ho5; (try have HB := hid (own_below HB.out (below_none hg5))); (try have HX := hid (((below_none hg5).block _ HXL.out).trans HX.out)); (try have HXL := hid (Nat.lt_of_lt_of_le HXL.out hg5.size)); refine hK.out _ _ (hHeld.trans ((below_none hg5).mono hHeld.size)) (fun hHeld => ?_)
      clear hK K
      try simp only [Act.put, List.setIfInBounds_toArray, List.set_cons_zero, List.set_cons_succ]
      refine wpAnyH_ready (rs := [7]) (by kernel_rfl) (by simp) ?_
      refine AllReadyH.cons (o := { dst := some 13, op := Op.makeSlice 23 (Operand.tmp 12) (Operand.tmp 12), type := 23, pos := "object.go:146", after := #[{ on := 6, ground := Ground.data }, { on := 6, ground := Ground.data }], guard := none }) rfl (fun K hK => ?_) AllReadyH.nil
      (refine step_mk ESym rfl (.tmp 12) (.tmp 12) rfl W2.heap.size .i64 .i64 m rfl rfl (by omega) (by unfold maxLen; omega) hHeld.size ?_); intro w6 ho6 hg6; have HB := hid ho6; (try have HA := hid (own_below HA.out (below_none hg6))); (try have HX := hid (((below_none hg6).block _ HXL.out).trans HX.out)); (try have HXL := hid (Nat.lt_of_lt_of_le HXL.out hg6.size)); refine hK.out _ _ (hHeld.trans ((below_none hg6).mono hHeld.size)) (fun hHeld => ?_)
      clear hK K
      try simp only [Act.put, List.setIfInBounds_toArray, List.set_cons_zero, List.set_cons_succ]
      refine wpAnyH_take (i := 8) (oi := { dst := some 14, op := Op.build 25 #[(0, Operand.tmp 9), (1, Operand.tmp 13)], type := 25, pos := "object.go:146", after := #[{ on := 3, ground := Ground.data }, { on := 7, ground := Ground.data }], guard := none }) (v := ?pacav8) rfl (by kernel_rfl) (by kernel_rfl) (by kernel_rfl) (fun _ _ _ h => h) (Or.inl ⟨by rfl, ?pacah8⟩) (by assumption) ?pacar8
      case pacah8 => ((intro w hSw; (try dsimp only at hSw); go_simp); try with_reducible rfl)
      try simp only [Act.put, List.setIfInBounds_toArray, List.set_cons_zero, List.set_cons_succ]
      refine wpAnyH_ready (rs := [10]) (by kernel_rfl) (by simp) ?_
      refine AllReadyH.cons (o := { dst := none, op := Op.store 25 (Operand.tmp 3) (Operand.tmp 14), type := 0, pos := "object.go:146", after := #[{ on := 9, ground := Ground.data }, { on := 8, ground := Ground.data }, { on := 0, ground := Ground.phase }, { on := 1, ground := Ground.phase }, { on := 2, ground := Ground.phase }, { on := 3, ground := Ground.phase }, { on := 4, ground := Ground.phase }, { on := 5, ground := Ground.phase }, { on := 6, ground := Ground.phase }, { on := 7, ground := Ground.phase }, { on := 8, ground := Ground.phase }, { on := 9, ground := Ground.phase }], guard := none }) rfl (fun K hK => ?_) AllReadyH.nil
      have z0 := cell_of_row _ _ 0 _ _ _ HX.out; have z1 := cell_of_row _ _ 1 _ _ _ HX.out; have zf0 := frozen_of_row _ _ 0 _ _ HX.out; have zf1 := frozen_of_row _ _ 1 _ _ HX.out; simp only [List.getElem?_toArray, List.getElem?_cons_zero, List.getElem?_cons_succ] at z0 z1; go_simp; refine hK.out _ _ ((hHeld.setCell HGE.out _).setCell HGE.out _) (fun hHeld => ?_)
      clear hK K
      try simp only [Act.put, List.setIfInBounds_toArray, List.set_cons_zero, List.set_cons_succ]
      refine wpAnyH_done (by kernel_rfl) ?_ _
      go_wp2_with fail
      go_meet
      exact ⟨_, _, _, _, _, rfl, heap_setCell_same _ _ 1 _ _ _ (heap_setCell_same _ _ 0 _ _ _ HX.out), own_setO (own_setO HA.out _ _ (fun q e => tag_ne (own_tag HA.out e) (tag_row HX.out) (by decide))) _ _ (fun q e => tag_ne (own_tag HA.out e) (tag_row HX.out) (by decide)), own_setO (own_setO HB.out _ _ (fun q e => tag_ne (own_tag HB.out e) (tag_row HX.out) (by decide))) _ _ (fun q e => tag_ne (own_tag HB.out e) (tag_row HX.out) (by decide)), hHeld, HGE.out⟩
    refine AllReadyH.cons (o := { dst := some 13, op := Op.makeSlice 23 (Operand.tmp 12) (Operand.tmp 12), type := 23, pos := "object.go:146", after := #[{ on := 6, ground := Ground.data }, { on := 6, ground := Ground.data }], guard := none }) rfl (fun K hK => ?_) AllReadyH.nil
    (refine step_mk ESym rfl (.tmp 12) (.tmp 12) rfl W2.heap.size .i64 .i64 m rfl rfl (by omega) (by unfold maxLen; omega) hHeld.size ?_); intro w6 ho6 hg6; have HB := hid ho6; (try have HA := hid (own_below HA.out (below_none hg6))); (try have HX := hid (((below_none hg6).block _ HXL.out).trans HX.out)); (try have HXL := hid (Nat.lt_of_lt_of_le HXL.out hg6.size)); refine hK.out _ _ (hHeld.trans ((below_none hg6).mono hHeld.size)) (fun hHeld => ?_)
    clear hK K
    try simp only [Act.put, List.setIfInBounds_toArray, List.set_cons_zero, List.set_cons_succ]
    refine wpAnyH_ready (rs := [3]) (by kernel_rfl) (by simp) ?_
    refine AllReadyH.cons (o := { dst := some 9, op := Op.makeSlice 22 (Operand.tmp 8) (Operand.tmp 8), type := 22, pos := "object.go:146", after := #[{ on := 2, ground := Ground.data }, { on := 2, ground := Ground.data }], guard := none }) rfl (fun K hK => ?_) AllReadyH.nil
    (refine step_mk ESec rfl (.tmp 8) (.tmp 8) rfl W2.heap.size .i64 .i64 n rfl rfl (by omega) (by unfold maxLen; omega) hHeld.size ?_); intro w5 ho5 hg5; have HA := hid ho5; (try have HB := hid (own_below HB.out (below_none hg5))); (try have HX := hid (((below_none hg5).block _ HXL.out).trans HX.out)); (try have HXL := hid (Nat.lt_of_lt_of_le HXL.out hg5.size)); refine hK.out _ _ (hHeld.trans ((below_none hg5).mono hHeld.size)) (fun hHeld => ?_)
    clear hK K
    try simp only [Act.put, List.setIfInBounds_toArray, List.set_cons_zero, List.set_cons_succ]
    refine wpAnyH_take (i := 8) (oi := { dst := some 14, op := Op.build 25 #[(0, Operand.tmp 9), (1, Operand.tmp 13)], type := 25, pos := "object.go:146", after := #[{ on := 3, ground := Ground.data }, { on := 7, ground := Ground.data }], guard := none }) (v := ?pacbv8) rfl (by kernel_rfl) (by kernel_rfl) (by kernel_rfl) (fun _ _ _ h => h) (Or.inl ⟨by rfl, ?pacbh8⟩) (by assumption) ?pacbr8
    case pacbh8 => ((intro w hSw; (try dsimp only at hSw); go_simp); try with_reducible rfl)
    try simp only [Act.put, List.setIfInBounds_toArray, List.set_cons_zero, List.set_cons_succ]
    refine wpAnyH_ready (rs := [10]) (by kernel_rfl) (by simp) ?_
    refine AllReadyH.cons (o := { dst := none, op := Op.store 25 (Operand.tmp 3) (Operand.tmp 14), type := 0, pos := "object.go:146", after := #[{ on := 9, ground := Ground.data }, { on := 8, ground := Ground.data }, { on := 0, ground := Ground.phase }, { on := 1, ground := Ground.phase }, { on := 2, ground := Ground.phase }, { on := 3, ground := Ground.phase }, { on := 4, ground := Ground.phase }, { on := 5, ground := Ground.phase }, { on := 6, ground := Ground.phase }, { on := 7, ground := Ground.phase }, { on := 8, ground := Ground.phase }, { on := 9, ground := Ground.phase }], guard := none }) rfl (fun K hK => ?_) AllReadyH.nil
    have z0 := cell_of_row _ _ 0 _ _ _ HX.out; have z1 := cell_of_row _ _ 1 _ _ _ HX.out; have zf0 := frozen_of_row _ _ 0 _ _ HX.out; have zf1 := frozen_of_row _ _ 1 _ _ HX.out; simp only [List.getElem?_toArray, List.getElem?_cons_zero, List.getElem?_cons_succ] at z0 z1; go_simp; refine hK.out _ _ ((hHeld.setCell HGE.out _).setCell HGE.out _) (fun hHeld => ?_)
    clear hK K
    try simp only [Act.put, List.setIfInBounds_toArray, List.set_cons_zero, List.set_cons_succ]
    refine wpAnyH_done (by kernel_rfl) ?_ _
    go_wp2_with fail
    go_meet
    exact ⟨_, _, _, _, _, rfl, heap_setCell_same _ _ 1 _ _ _ (heap_setCell_same _ _ 0 _ _ _ HX.out), own_setO (own_setO HA.out _ _ (fun q e => tag_ne (own_tag HA.out e) (tag_row HX.out) (by decide))) _ _ (fun q e => tag_ne (own_tag HA.out e) (tag_row HX.out) (by decide)), own_setO (own_setO HB.out _ _ (fun q e => tag_ne (own_tag HB.out e) (tag_row HX.out) (by decide))) _ _ (fun q e => tag_ne (own_tag HB.out e) (tag_row HX.out) (by decide)), hHeld, HGE.out⟩
  case rest =>
    rename World => w3
    obtain ⟨g, gs, gy, xs, ys, rfl, hx3, ha3, hy3, hb3, hge⟩ := hcut
    have HA3 := hid ha3
    have HY3 := hid hy3
    have HX3 := hid hx3
    have HB3 := hid hb3
    obtain ⟨c0, c1⟩ := HC.out w3 hb3
    have z0 := cell_of_row _ _ 0 _ _ _ hx3
    have z1 := cell_of_row _ _ 1 _ _ _ hx3
    simp only [List.getElem?_toArray, List.getElem?_cons_zero, List.getElem?_cons_succ] at z0 z1
    have HGE := hid hge
    clear hx3 ha3 hy3 hb3 hge
    go_upto_region 3 with ((with_reducible show wpList _ _ _ (⟨some 19, _, _, _, _, _⟩ :: _) _ _); go_loud (refine wpList_copy_row ESec rfl (.tmp 16) (.tmp 18) rfl W2.heap.size gs n n o.sp o.sc rfl rfl xs (o.secs.flatMap Sc.cells) HA3.out (HO.out.secs.below (HBB.out _ HB3.out)) (by rw [flat_len Sc.cells 6 (fun _ => rfl), HN.out.1, Nat.mul_comm]) (by decide) (sc_ones _) ?_); go_loud (intro w4 ha4 hg4; have HA4 := hid ha4; have HG4 := hid hg4; clear ha4 hg4))
    have hne4 : ∀ q T, tagAt w3 q = some (T + 1) → T ≠ 40 → some q ≠ some gs := fun q T ht hne e => by
      cases e
      have h1 := own_tag HA3.out rfl
      rw [ht] at h1; injection h1 with h1; injection h1 with h1; exact hne h1
    have hb4 : Below W2.heap.size W2 w4 := HB3.out.grown HG4.out HB3.out.size (fun q e => by cases e; exact own_ge HA3.out gs rfl)
    have hx4 := (HG4.out.block g (tag_lt (tag_row HX3.out)) (hne4 g _ (tag_row HX3.out) (by decide))).trans HX3.out
    have HY4 : Hid (w4.ownsRow W2.heap.size 36 4 (.slice (some ⟨gy, 0, none⟩) m m) m ys) := HY3.out.kept HG4.out (.inr (fun e => hne4 gy _ (own_tag HY3.out rfl) (by decide) (show some gy = some gs from by first | exact e | exact e.symm)))
    have HX4 := hid hx4
    have HB4 := hid hb4
    clear c0 c1 z0 z1 hne4
    obtain ⟨c0, c1⟩ := HC.out w4 hb4
    have z0 := cell_of_row _ _ 0 _ _ _ hx4
    have z1 := cell_of_row _ _ 1 _ _ _ hx4
    simp only [List.getElem?_toArray, List.getElem?_cons_zero, List.getElem?_cons_succ] at z0 z1
    clear hb4 hx4
    go_upto_region 4 with ((with_reducible show wpList _ _ _ (⟨some 24, _, _, _, _, _⟩ :: _) _ _); go_loud (refine wpList_copy_row ESym rfl (.tmp 21) (.tmp 23) rfl W2.heap.size gy m m o.yp o.yc rfl rfl ys (o.syms.flatMap Sy.cells) HY4.out (HO.out.syms.below (HBB.out _ HB4.out)) (by rw [flat_len Sy.cells 4 (fun _ => rfl), HN.out.2, Nat.mul_comm]) (by decide) (sy_ones _) ?_); go_loud (intro w5 hy5 hg5; have HY5 := hid hy5; have HG5 := hid hg5; clear hy5 hg5))
    have hne5 : ∀ q T, tagAt w4 q = some (T + 1) → T ≠ 36 → some q ≠ some gy := fun q T ht hne e => by
      cases e
      have h1 := own_tag HY4.out rfl
      rw [ht] at h1; injection h1 with h1; injection h1 with h1; exact hne h1
    have hb5 : Below W2.heap.size W2 w5 := HB4.out.grown HG5.out HB4.out.size (fun q e => by cases e; exact own_ge HY4.out gy rfl)
    have hx5 := (HG5.out.block g (tag_lt (tag_row HX4.out)) (hne5 g _ (tag_row HX4.out) (by decide))).trans HX4.out
    have HA5 : Hid (w5.ownsRow W2.heap.size 40 6 (.slice (some ⟨gs, 0, none⟩) n n) n (o.secs.flatMap Sc.cells)) := HA4.out.kept HG5.out (.inr (fun e => hne5 gs _ (own_tag HA4.out rfl) (by decide) (show some gs = some gy from by first | exact e | exact e.symm)))
    have h5 : CloI W o g gs gy 0 o.secs w5 := by
      have hsz := HB2.out.size
      refine ⟨⟨?_, ?_, fun i s hi => absurd hi (Nat.not_lt_zero _), fun i j s t _ hi => absurd hi (Nat.not_lt_zero _)⟩, rfl, fun _ _ => rfl, ?_, (hb5.block _ (by have := HZ.out; omega)).trans HY.out.2, HBB.out _ hb5⟩
      · have := own_base HA5.out hsz
        rw [HN.out.1] at this; exact this
      · have := own_base HY5.out hsz
        rw [HN.out.2] at this; exact this
      · rw [← HN.out.1, ← HN.out.2]; exact hx5
    have H5 := hid h5
    clear c0 c1 z0 z1 hne5 hb5
    have z0 := cell_of_row _ _ 0 _ _ _ hx5
    have z1 := cell_of_row _ _ 1 _ _ _ hx5
    simp only [List.getElem?_toArray, List.getElem?_cons_zero, List.getElem?_cons_succ] at z0 z1
    clear hx5 h5
    go_wp2_with (fail)
    go_loopw [28] (fun i wr => ∃ (k : Nat) (secs : List Sc), k ≤ n ∧ i = .int .i64 k ∧ CloI W o g gs gy k secs wr) (fun i _ => n - (intOf i).toNat)
    case atStart => exact ⟨0, o.secs, by omega, rfl, H5.out⟩
    case round =>
      clear z0 z1
      rename World => wr
      obtain ⟨k, secs, hk, rfl, hi⟩ := hrel
      have HI := hid hi
      have hx := hi.box
      rw [← HN.out.1, ← HN.out.2] at hx
      have z0 := cell_of_row _ _ 0 _ _ _ hx
      have z1 := cell_of_row _ _ 1 _ _ _ hx
      simp only [List.getElem?_toArray, List.getElem?_cons_zero, List.getElem?_cons_succ] at z0 z1
      have hls : secs.length = n := by have := congrArg List.length hi.con; rw [HN.out.1]; simpa using this
      have HLS := hid hls
      by_cases hlt : k < n
      · have hkI : (k : Int) < n := by omega
        have hks : k < secs.length := by omega
        have hsk : secs[k]? = some secs[k] := List.getElem?_eq_getElem hks
        have hcell := hi.fr.cellS k hks
        have hsm : secs[k] ∈ o.secs := by
          have e := hi.rest k (Nat.le_refl _)
          rw [hsk] at e
          exact List.mem_of_getElem? e.symm
        have hrd0 := HO.out.each _ hsm
        have hrd := hrd0.below hi.b
        have HST : Hid (∀ {w1 : World} (_ : Below wr.heap.size wr w1) {p2 : Option Addr} {c2 : Nat} (_ : w1.ownsRow wr.heap.size 5 1 (.slice p2 secs[k].data.length c2) secs[k].data.length (secs[k].data.map (Value.int .u8)))
            {w3 : World} (_ : Below (w1.setCell ⟨gs, k * 6 + 4, none⟩ (.slice p2 secs[k].data.length c2)).heap.size (w1.setCell ⟨gs, k * 6 + 4, none⟩ (.slice p2 secs[k].data.length c2)) w3) {p4 : Option Addr} {c4 : Nat} (_ : w3.ownsRow (w1.setCell ⟨gs, k * 6 + 4, none⟩ (.slice p2 secs[k].data.length c2)).heap.size 54 4 (.slice p4 secs[k].rel.length c4) secs[k].rel.length (secs[k].rel.flatMap Rl.cells)),
            ∃ secs', CloI W o g gs gy (k + 1) secs' (w3.setCell ⟨gs, k * 6 + 5, none⟩ (.slice p4 secs[k].rel.length c4))) := fun h1 _ _ h2 _ h3 _ _ h4 => ⟨_, hi.step hsk h1 h2 h3 h4⟩
        have HFR := hid hi.fr
        generalize secs[k] = s at *
        obtain ⟨a4, a5⟩ := hcell
        unfold dV at a4
        unfold rV at a5
        have HBC := hid (bclone_any s.dp s.dc s.data wr hrd.data hrd.dlen)
        have HRD0 := hid hrd0
        have hfz : wr.frozen? ⟨gs, k * 6 + 4, none⟩ = false := World.ownsRow.frozenAt hi.fr.os _
        have A5 := hid a5
        have hgsz := hi.fr.base.2.1
        have hrz : (k : Int).toNat = k := by omega
        clear hi hx hsk hsm hrd hrd0
        go_upto_region 9 with (go_at_call 54; go_loud ((with_reducible refine HBC.out.mono ?_); rintro e w6 ⟨p2, c2, rfl, ho6, hb6⟩; have a46 := (hb6.cell (p := ⟨gs, k * 6 + 4, none⟩) hgsz).trans a4; have a56 := (hb6.cell (p := ⟨gs, k * 6 + 5, none⟩) hgsz).trans A5.out; have hfz6 : w6.frozen? ⟨gs, k * 6 + 4, none⟩ = false := World.ownsRow.frozenAt (HFR.out.below hb6).os _; have hfz7 : w6.frozen? ⟨gs, k * 6 + 5, none⟩ = false := World.ownsRow.frozenAt (HFR.out.below hb6).os _; have hx6 := (HI.out.below hb6).box; rw [← HN.out.1, ← HN.out.2] at hx6; have HO6 := hid ho6; have HB6 := hid hb6; have hg6 := Nat.lt_of_lt_of_le hgsz hb6.size; clear ho6 hb6 a4 a5 z0 z1))
        obtain ⟨w7, hw7⟩ : ∃ w7, w7 = w6.setCell ⟨gs, k * 6 + 4, none⟩ (.slice p2 s.data.length c2) := ⟨_, rfl⟩
        have hc7 : w7.cell? ⟨gs, k * 6 + 5, none⟩ = some (.slice s.rp s.rel.length s.rc) := by
          rw [hw7]; rw [World.cell?_setCell_other _ _ _ _ (by simp)]; exact a56
        have hf7 : w7.frozen? ⟨gs, k * 6 + 5, none⟩ = false := by rw [hw7, World.frozen?_setCell]; exact hfz7
        have hx7 : w7.heap[g]? = some (.cells #[.slice (some ⟨gs, 0, none⟩) n n, .slice (some ⟨gy, 0, none⟩) m m] 25 (0, 0)) := by
          rw [hw7]; exact (heap_setCell_other _ _ _ _ (fun e => HI.out.tags.1 e.symm)).trans hx6
        have hg7 : gs < w7.heap.size := by rw [hw7]; simpa using hg6
        have hb7 : Below W.heap.size W w7 := by
          rw [hw7]; exact (HI.out.b.trans (HB6.out.mono HI.out.b.size)).setCell (p := ⟨gs, k * 6 + 4, none⟩) HFR.out.base.1 _
        have hrd7 := HRD0.out.below hb7
        have HRC := hid (rclone_any s.rp s.rc s.rel w7 hrd7.rel hrd7.rcap hrd7.rnil.2 hrd7.rnil.1)
        have z0 := cell_of_row _ _ 0 _ _ _ hx7
        have z1 := cell_of_row _ _ 1 _ _ _ hx7
        simp only [List.getElem?_toArray, List.getElem?_cons_zero, List.getElem?_cons_succ] at z0 z1
        have HW7 := hid hw7
        have HC7 := hid hc7
        have HST7 : Hid (∀ {w3 : World} (_ : Below w7.heap.size w7 w3) {p4 : Option Addr} {c4 : Nat} (_ : w3.ownsRow w7.heap.size 54 4 (.slice p4 s.rel.length c4) s.rel.length (s.rel.flatMap Rl.cells)),
            ∃ secs', CloI W o g gs gy (k + 1) secs' (w3.setCell ⟨gs, k * 6 + 5, none⟩ (.slice p4 s.rel.length c4))) := fun h3 _ _ h4 => by
          subst hw7
          exact HST.out HB6.out HO6.out h3 h4
        rw [← hw7]
        clear hw7 hx7 hb7 hrd7 a46 a56 hfz6 hfz7 hx6 HST HBC
        go_wp2_with (go_at_call 55; go_loud ((with_reducible refine HRC.out.mono ?_); rintro e w8 ⟨p4, c4, rfl, ho8, hb8⟩; have a58 := (hb8.cell (p := ⟨gs, k * 6 + 5, none⟩) hg7).trans HC7.out; have hfz8 : w8.frozen? ⟨gs, k * 6 + 5, none⟩ = false := (hb8.frozen (p := ⟨gs, k * 6 + 5, none⟩) hg7).trans hf7; have HS8 := hid (HST7.out hb8 ho8); clear ho8 hb8 hc7))
        obtain ⟨secs', hs'⟩ := HS8.out
        exact ⟨⟨k + 1, secs', by omega, by go_num, hs'⟩, by simp [intOf]; omega⟩
      · have hke : k = n := by omega
        subst hke
        have hr0 := cell_of_row _ _ 0 _ _ _ hi.res
        have hr1 := cell_of_row _ _ 1 _ _ _ hi.res
        have hf0 := frozen_of_row _ _ 0 _ _ hi.res
        have hf1 := frozen_of_row _ _ 1 _ _ hi.res
        simp only [List.getElem?_toArray, List.getElem?_cons_zero, List.getElem?_cons_succ] at hr0 hr1
        have hres := HI.out.res
        have hb9 : ∀ (u v : Value), Below W.heap.size W ((wr.setCell ⟨W.heap.size + 1, 0, none⟩ u).setCell ⟨W.heap.size + 1, 1, none⟩ v) := fun u v => (HI.out.b.setCell (Nat.le_succ _) _).setCell (Nat.le_succ _) _
        have hf9 : ∀ (u v : Value), FrO W.heap.size ((wr.setCell ⟨W.heap.size + 1, 0, none⟩ u).setCell ⟨W.heap.size + 1, 1, none⟩ v) gs gy secs o.syms k := fun u v => by
          have l1 : ∀ (w : World) (j : Nat) (x : Value), tagAt w (W.heap.size + 1) = some (25 + 1) → W.heap.size ≤ w.heap.size → Lies W.heap.size isO w (w.setCell ⟨W.heap.size + 1, j, none⟩ x) := fun w j x ht hz =>
            Lies.grown (grown_set w _ x) (fun q e => by cases e; exact ⟨ht, Nat.le_succ _⟩) (by unfold isO; decide) hz
          have t1 := tag_row hres
          have t2 : tagAt (wr.setCell ⟨W.heap.size + 1, 0, none⟩ u) (W.heap.size + 1) = some (25 + 1) := tag_row (heap_setCell_same _ _ 0 _ _ _ hres)
          exact (HI.out.fr.lies (l1 wr 0 u t1 HI.out.b.size)).lies (l1 _ 1 v t2 (by simpa using HI.out.b.size))
        have HB9 := hid hb9
        have HF9 := hid hf9
        have hres9 : ∀ (u v : Value), ((wr.setCell ⟨W.heap.size + 1, 0, none⟩ u).setCell ⟨W.heap.size + 1, 1, none⟩ v).heap[W.heap.size + 1]? = some (.cells #[u, v] 25 (0, 0)) := fun u v => heap_setCell_same _ _ 1 _ _ _ (heap_setCell_same _ _ 0 _ _ _ hres)
        have HR9 := hid hres9
        clear hb9 hf9 hres hres9 hi hx
        go_wp2_with fail
        have r9 := HR9.out (.slice (some ⟨gs, 0, none⟩) k k) (.slice (some ⟨gy, 0, none⟩) m m)
        have y0 := cell_of_row _ _ 0 _ _ _ r9
        have y1 := cell_of_row _ _ 1 _ _ _ r9
        simp only [List.getElem?_toArray, List.getElem?_cons_zero, List.getElem?_cons_succ] at y0 y1
        obtain ⟨W9, hW9⟩ : ∃ W9, W9 = (wr.setCell ⟨W.heap.size + 1, 0, none⟩ (.slice (some ⟨gs, 0, none⟩) k k)).setCell ⟨W.heap.size + 1, 1, none⟩ (.slice (some ⟨gy, 0, none⟩) m m) := ⟨_, rfl⟩
        rw [← hW9] at y0 y1 ⊢
        refine bodyPost_ret (v := .agg #[.slice (some ⟨gs, 0, none⟩) k k, .slice (some ⟨gy, 0, none⟩) m m]) (by simp [results, Try.results28, go_sem, y0, y1]) rfl ?_
        refine ⟨⟨gs, gy, secs, by rw [← HN.out.1, ← HN.out.2], ?_, HI.out.con⟩, by rw [hW9]; exact HB9.out _ _⟩
        rw [hW9, HLS.out]; exact HF9.out _ _
end Go.Proofs.Yteccpmmedpkddaa
