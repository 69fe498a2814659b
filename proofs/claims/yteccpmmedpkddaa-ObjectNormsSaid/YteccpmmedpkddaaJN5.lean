/-
  Sections compared: the document's SameSections.
  Objects compared: the document's Same.
-/
import Derived.Test.YteccpmmedpkddaaJN4
namespace Go.Proofs.Yteccpmmedpkddaa
open Go.RowKit
variable {W w w' : World}
/-- A section's box. -/
def BxS (b : Nat) (s : Sc) (w : World) : Prop := w.heap[b]? = some (.cells s.cells.toArray 40 (0, 0))
theorem bxs_cells {b : Nat} {s : Sc} (h : BxS b s W) : W.cell? ⟨b, 0, none⟩ = some (.string s.name) ∧ W.cell? ⟨b, 1, none⟩ = some (.int .i64 s.kind) ∧ W.cell? ⟨b, 2, none⟩ = some (.int .i64 s.align) ∧ W.cell? ⟨b, 3, none⟩ = some (.int .i64 s.size) ∧ W.cell? ⟨b, 4, none⟩ = some (.slice s.dp s.data.length s.dc) ∧ W.cell? ⟨b, 5, none⟩ = some (.slice s.rp s.rel.length s.rc) :=
  ⟨cell_of_row _ _ 0 _ _ _ h, cell_of_row _ _ 1 _ _ _ h, cell_of_row _ _ 2 _ _ _ h, cell_of_row _ _ 3 _ _ _ h, cell_of_row _ _ 4 _ _ _ h, cell_of_row _ _ 5 _ _ _ h⟩
theorem bxs_two (w : World) (x y : Sc) : BxS w.heap.size x ((w.alloc (.cells x.cells.toArray 40)).alloc (.cells y.cells.toArray 40)) ∧ BxS (w.heap.size + 1) y ((w.alloc (.cells x.cells.toArray 40)).alloc (.cells y.cells.toArray 40)) := by
  refine ⟨(Below.heap_alloc _ _ _ (by simp)).trans (heap_alloc_new _ _), ?_⟩
  have := heap_alloc_new (w.alloc (.cells x.cells.toArray 40)) (.cells y.cells.toArray 40)
  rw [World.size_alloc] at this
  exact this
set_option maxRecDepth 20000 in
set_option maxHeartbeats 4000000 in
theorem rsecs_any (pa pb : Option Addr) (ca cb : Nat) (l m : List Sc) (W : World) (h1 : Row W pa (l.flatMap Sc.cells)) (h2 : Row W pb (m.flatMap Sc.cells)) (k1 : ∀ s ∈ l, s.rd W) (k2 : ∀ s ∈ m, s.rd W) (hl : l.length ≤ 4398046510976) (hm : m.length ≤ 4398046510976) :
    Calls Try.prog 56 #[.slice pa l.length ca, .slice pb m.length cb] W fun e w' => e = .returned (.bool (decide (l.map Sc.con = m.map Sc.con))) ∧ Below W.heap.size W w' := by
  have HH := hid (And.intro h1 h2)
  have HK := hid (And.intro k1 k2)
  obtain ⟨N, hN⟩ : ∃ N, N = l.length := ⟨_, rfl⟩
  obtain ⟨M, hM⟩ : ∃ N, N = m.length := ⟨_, rfl⟩
  rw [← hN] at hl ⊢
  rw [← hM] at hm ⊢
  have HN := hid (And.intro hN hM)
  obtain ⟨B, hB⟩ : ∃ B, B = decide (l.map Sc.con = m.map Sc.con) := ⟨_, rfl⟩
  have HB := hid hB
  rw [← hB]
  clear h1 h2 hN hM hB k1 k2
  have hb0 : Below W.heap.size W W := Below.refl _ _
  by_cases hlen : N = M
  case neg =>
    have hBf : Hid (B = false) := by
      show _ = _
      rw [HB.out]; refine decide_eq_false fun e => hlen ?_
      have := congrArg List.length e
      rw [HN.out.1, HN.out.2]; simpa using this
    have hz : ¬ (N : Int) = (M : Int) := by omega
    go_enter Try.func56, Try.ntmps56
    go_wp2
    go_ret
    exact ⟨ret_bool hBf.out.symm, Below.refl _ _⟩
  subst hlen
  go_enter Try.func56, Try.ntmps56
  go_wp2_with (fail)
  go_loopw [5] (fun i wr => ∃ (k : Nat), k ≤ N ∧ i = .int .i64 k ∧ Below W.heap.size W wr ∧ ∀ j, j < k → (l.map Sc.con)[j]? = (m.map Sc.con)[j]?) (fun i _ => N - (intOf i).toNat)
  case atStart => exact ⟨0, by omega, rfl, hb0, fun j h => absurd h (Nat.not_lt_zero _)⟩
  case round =>
    rename World => wr
    obtain ⟨k, hk, rfl, hbw, heq⟩ := hrel
    have HQ := hid heq
    clear hb0 heq
    have HBW := hid hbw
    by_cases hlt : k < N
    · have hkI : (k : Int) < N := by omega
      have k1 : k < l.length := by rw [← HN.out.1]; exact hlt
      have k2 : k < m.length := by rw [← HN.out.2]; exact hlt
      obtain ⟨b1, o1, rfl, hbl1, -⟩ := HH.out.1.at (by rw [flat_len Sc.cells 6 (fun _ => rfl)]; omega)
      obtain ⟨b2, o2, rfl, hbl2, -⟩ := HH.out.2.at (by rw [flat_len Sc.cells 6 (fun _ => rfl)]; omega)
      have A := fun (w' : World) (hw : Below W.heap.size W w') => sc_cells (HH.out.1.below hw) k k1
      have D := fun (w' : World) (hw : Below W.heap.size W w') => sc_cells (HH.out.2.below hw) k k2
      have HX : Hid ((l.map Sc.con)[k]? = some l[k].con ∧ (m.map Sc.con)[k]? = some m[k].con) := ⟨by simp [k1], by simp [k2]⟩
      have HXO : Hid (l[k].rd W ∧ m[k].rd W) := ⟨HK.out.1 _ (List.getElem_mem _), HK.out.2 _ (List.getElem_mem _)⟩
      generalize l[k] = x at *
      generalize m[k] = y at *
      have HTW := hid (fun w => bxs_two w x y)
      have HTV := hid (fun w => bxs_two w y x)
      obtain ⟨q, hq⟩ : ∃ q, q = decide (x.con = y.con) := ⟨_, rfl⟩
      have HQQ := hid hq
      have c0 := fun w' hw => (A w' hw).1
      have c1 := fun w' hw => (A w' hw).2.1
      have c2 := fun w' hw => (A w' hw).2.2.1
      have c3 := fun w' hw => (A w' hw).2.2.2.1
      have c4 := fun w' hw => (A w' hw).2.2.2.2.1
      have c5 := fun w' hw => (A w' hw).2.2.2.2.2
      have d0 := fun w' hw => (D w' hw).1
      have d1 := fun w' hw => (D w' hw).2.1
      have d2 := fun w' hw => (D w' hw).2.2.1
      have d3 := fun w' hw => (D w' hw).2.2.2.1
      have d4 := fun w' hw => (D w' hw).2.2.2.2.1
      have d5 := fun w' hw => (D w' hw).2.2.2.2.2
      clear A D hq
      go_wp2_with (fail)
      go_upto_region 6 with (fail)
      go_cut [6, 7] from 19 to 26 (fun u v wx => ∃ g h : Nat, u = .pointer (some ⟨g, 0, none⟩) ∧ v = .pointer (some ⟨h, 0, none⟩) ∧ BxS g x wx ∧ BxS h y wx ∧ Below W.heap.size W wx)
      case first =>
        obtain ⟨wd, hwd⟩ : ∃ wd, wd = wr.drew := ⟨_, rfl⟩
        have hbd : Below W.heap.size W wd := by rw [hwd]; exact hbw.drew
        have HBD := hid hbd
        have hsz := hbd.size
        refine wp_region_held_drew (S := fun w' => Below W.heap.size W w') (by kernel_rfl) (by rw [← hwd]; exact hbd) (fun hHeld => ?_)
        rw [← hwd] at *
        refine wpAnyH_take (i := 0) (oi := { dst := some 19, op := Op.move (Operand.tmp 0), type := 22, pos := "ref.go:249", after := #[], guard := none }) (v := ?pav0) rfl (by kernel_rfl) (by kernel_rfl) (by kernel_rfl) (fun _ _ _ h => h) (Or.inl ⟨by rfl, ?pah0⟩) (by assumption) ?par0
        case pah0 => ((intro w hSw; (try dsimp only at hSw); go_simp); try with_reducible rfl)
        try simp only [Act.put, List.setIfInBounds_toArray, List.set_cons_zero, List.set_cons_succ]
        refine wpAnyH_take (i := 1) (oi := { dst := some 20, op := Op.move (Operand.tmp 5), type := 3, pos := "ref.go:249", after := #[], guard := none }) (v := ?pav1) rfl (by kernel_rfl) (by kernel_rfl) (by kernel_rfl) (fun _ _ _ h => h) (Or.inl ⟨by rfl, ?pah1⟩) (by assumption) ?par1
        case pah1 => ((intro w hSw; (try dsimp only at hSw); go_simp); try with_reducible rfl)
        try simp only [Act.put, List.setIfInBounds_toArray, List.set_cons_zero, List.set_cons_succ]
        refine wpAnyH_take (i := 2) (oi := { dst := some 21, op := Op.indexAddr 22 (Operand.tmp 19) (Operand.tmp 20), type := 0, pos := "ref.go:249", after := #[{ on := 0, ground := Ground.data }, { on := 1, ground := Ground.data }], guard := none }) (v := ?pav2) rfl (by kernel_rfl) (by kernel_rfl) (by kernel_rfl) (fun _ _ _ h => h) (Or.inl ⟨by rfl, ?pah2⟩) (by assumption) ?par2
        case pah2 => ((intro w hSw; (try dsimp only at hSw); go_simp); try with_reducible rfl)
        try simp only [Act.put, List.setIfInBounds_toArray, List.set_cons_zero, List.set_cons_succ]
        refine wpAnyH_take (i := 3) (oi := { dst := some 22, op := Op.load 40 (Operand.tmp 21), type := 40, pos := "ref.go:249", after := #[{ on := 2, ground := Ground.data }], guard := none }) (v := ?pav3) rfl (by kernel_rfl) (by kernel_rfl) (by kernel_rfl) (fun _ _ _ h => h) (Or.inl ⟨by rfl, ?pah3⟩) (by assumption) ?par3
        case pah3 => ((intro w hSw; (try dsimp only at hSw); go_simp); try with_reducible rfl)
        try simp only [Act.put, List.setIfInBounds_toArray, List.set_cons_zero, List.set_cons_succ]
        refine wpAnyH_take (i := 4) (oi := { dst := some 23, op := Op.move (Operand.tmp 1), type := 22, pos := "ref.go:249", after := #[{ on := 10, ground := Ground.gcOnly Departure.lateStores }], guard := none }) (v := ?pav4) rfl (by kernel_rfl) (by kernel_rfl) (by kernel_rfl) (fun _ _ _ h => h) (Or.inl ⟨by rfl, ?pah4⟩) (by assumption) ?par4
        case pah4 => ((intro w hSw; (try dsimp only at hSw); go_simp); try with_reducible rfl)
        try simp only [Act.put, List.setIfInBounds_toArray, List.set_cons_zero, List.set_cons_succ]
        refine wpAnyH_take (i := 5) (oi := { dst := some 24, op := Op.move (Operand.tmp 5), type := 3, pos := "ref.go:249", after := #[{ on := 10, ground := Ground.gcOnly Departure.lateStores }], guard := none }) (v := ?pav5) rfl (by kernel_rfl) (by kernel_rfl) (by kernel_rfl) (fun _ _ _ h => h) (Or.inl ⟨by rfl, ?pah5⟩) (by assumption) ?par5
        case pah5 => ((intro w hSw; (try dsimp only at hSw); go_simp); try with_reducible rfl)
        try simp only [Act.put, List.setIfInBounds_toArray, List.set_cons_zero, List.set_cons_succ]
        refine wpAnyH_take (i := 6) (oi := { dst := some 25, op := Op.indexAddr 22 (Operand.tmp 23) (Operand.tmp 24), type := 0, pos := "ref.go:249", after := #[{ on := 4, ground := Ground.data }, { on := 5, ground := Ground.data }, { on := 10, ground := Ground.gcOnly Departure.lateStores }], guard := none }) (v := ?pav6) rfl (by kernel_rfl) (by kernel_rfl) (by kernel_rfl) (fun _ _ _ h => h) (Or.inl ⟨by rfl, ?pah6⟩) (by assumption) ?par6
        case pah6 => ((intro w hSw; (try dsimp only at hSw); go_simp); try with_reducible rfl)
        try simp only [Act.put, List.setIfInBounds_toArray, List.set_cons_zero, List.set_cons_succ]
        refine wpAnyH_take (i := 7) (oi := { dst := some 26, op := Op.load 40 (Operand.tmp 25), type := 40, pos := "ref.go:249", after := #[{ on := 6, ground := Ground.data }, { on := 10, ground := Ground.gcOnly Departure.lateStores }], guard := none }) (v := ?pav7) rfl (by kernel_rfl) (by kernel_rfl) (by kernel_rfl) (fun _ _ _ h => h) (Or.inl ⟨by rfl, ?pah7⟩) (by assumption) ?par7
        case pah7 => ((intro w hSw; (try dsimp only at hSw); go_simp); try with_reducible rfl)
        try simp only [Act.put, List.setIfInBounds_toArray, List.set_cons_zero, List.set_cons_succ]
        refine wpAnyH_ready (rs := [8, 9]) (by kernel_rfl) (by simp) ?_
        refine AllReadyH.cons (o := { dst := some 6, op := Op.alloc 40, type := 0, pos := "ref.go:249", after := #[], guard := none }) rfl (fun K hK => ?_) ?_
        · go_simp; refine hK.out _ _ (by repeat' (first | exact HBD.out | (refine Below.setCell ?_ (by first | omega | (simp; omega) | simp) _) | (refine Below.alloc ?_ (by first | omega | (simp; omega) | simp) _))) (fun hHeld => ?_)
          clear hK K
          try simp only [Act.put, List.setIfInBounds_toArray, List.set_cons_zero, List.set_cons_succ]
          refine wpAnyH_ready (rs := [9]) (by kernel_rfl) (by simp) ?_
          refine AllReadyH.cons (o := { dst := some 7, op := Op.alloc 40, type := 0, pos := "ref.go:249", after := #[], guard := none }) rfl (fun K hK => ?_) AllReadyH.nil
          go_simp; refine hK.out _ _ (by repeat' (first | exact HBD.out | (refine Below.setCell ?_ (by first | omega | (simp; omega) | simp) _) | (refine Below.alloc ?_ (by first | omega | (simp; omega) | simp) _))) (fun hHeld => ?_)
          clear hK K
          try simp only [Act.put, List.setIfInBounds_toArray, List.set_cons_zero, List.set_cons_succ]
          refine wpAnyH_ready (rs := [10]) (by kernel_rfl) (by simp) ?_
          refine AllReadyH.cons (o := { dst := none, op := Op.store 40 (Operand.tmp 6) (Operand.tmp 22), type := 0, pos := "ref.go:249", after := #[{ on := 8, ground := Ground.data }, { on := 3, ground := Ground.data }, { on := 0, ground := Ground.phase }, { on := 1, ground := Ground.phase }, { on := 2, ground := Ground.phase }, { on := 3, ground := Ground.phase }, { on := 4, ground := Ground.textOnly Departure.lateStores }, { on := 5, ground := Ground.textOnly Departure.lateStores }, { on := 6, ground := Ground.textOnly Departure.lateStores }, { on := 7, ground := Ground.textOnly Departure.lateStores }, { on := 8, ground := Ground.phase }, { on := 9, ground := Ground.phase }], guard := none }) rfl (fun K hK => ?_) AllReadyH.nil
          go_simp; refine hK.out _ _ (by repeat' (first | exact HBD.out | (refine Below.setCell ?_ (by first | omega | (simp; omega) | simp) _) | (refine Below.alloc ?_ (by first | omega | (simp; omega) | simp) _))) (fun hHeld => ?_)
          clear hK K
          try simp only [Act.put, List.setIfInBounds_toArray, List.set_cons_zero, List.set_cons_succ]
          refine wpAnyH_ready (rs := [11]) (by kernel_rfl) (by simp) ?_
          refine AllReadyH.cons (o := { dst := none, op := Op.store 40 (Operand.tmp 7) (Operand.tmp 26), type := 0, pos := "ref.go:249", after := #[{ on := 9, ground := Ground.data }, { on := 7, ground := Ground.data }, { on := 10, ground := Ground.chain }, { on := 0, ground := Ground.phase }, { on := 1, ground := Ground.phase }, { on := 2, ground := Ground.phase }, { on := 3, ground := Ground.phase }, { on := 4, ground := Ground.phase }, { on := 5, ground := Ground.phase }, { on := 6, ground := Ground.phase }, { on := 7, ground := Ground.phase }, { on := 8, ground := Ground.phase }, { on := 9, ground := Ground.phase }, { on := 10, ground := Ground.phase }], guard := none }) rfl (fun K hK => ?_) AllReadyH.nil
          go_simp; refine hK.out _ _ (by repeat' (first | exact HBD.out | (refine Below.setCell ?_ (by first | omega | (simp; omega) | simp) _) | (refine Below.alloc ?_ (by first | omega | (simp; omega) | simp) _))) (fun hHeld => ?_)
          clear hK K
          try simp only [Act.put, List.setIfInBounds_toArray, List.set_cons_zero, List.set_cons_succ]
          refine wpAnyH_done (by kernel_rfl) ?_ _
          go_wp2_with fail
          go_meet
          first | exact ⟨_, _, rfl, rfl, (HTW.out wd).1, (HTW.out wd).2, (HBD.out.alloc HBD.out.size _).alloc (by simp; omega) _⟩ | exact ⟨_, _, rfl, rfl, (HTV.out wd).2, (HTV.out wd).1, (HBD.out.alloc HBD.out.size _).alloc (by simp; omega) _⟩
        refine AllReadyH.cons (o := { dst := some 7, op := Op.alloc 40, type := 0, pos := "ref.go:249", after := #[], guard := none }) rfl (fun K hK => ?_) AllReadyH.nil
        go_simp; refine hK.out _ _ (by repeat' (first | exact HBD.out | (refine Below.setCell ?_ (by first | omega | (simp; omega) | simp) _) | (refine Below.alloc ?_ (by first | omega | (simp; omega) | simp) _))) (fun hHeld => ?_)
        clear hK K
        try simp only [Act.put, List.setIfInBounds_toArray, List.set_cons_zero, List.set_cons_succ]
        refine wpAnyH_ready (rs := [8]) (by kernel_rfl) (by simp) ?_
        refine AllReadyH.cons (o := { dst := some 6, op := Op.alloc 40, type := 0, pos := "ref.go:249", after := #[], guard := none }) rfl (fun K hK => ?_) AllReadyH.nil
        go_simp; refine hK.out _ _ (by repeat' (first | exact HBD.out | (refine Below.setCell ?_ (by first | omega | (simp; omega) | simp) _) | (refine Below.alloc ?_ (by first | omega | (simp; omega) | simp) _))) (fun hHeld => ?_)
        clear hK K
        try simp only [Act.put, List.setIfInBounds_toArray, List.set_cons_zero, List.set_cons_succ]
        refine wpAnyH_ready (rs := [10]) (by kernel_rfl) (by simp) ?_
        refine AllReadyH.cons (o := { dst := none, op := Op.store 40 (Operand.tmp 6) (Operand.tmp 22), type := 0, pos := "ref.go:249", after := #[{ on := 8, ground := Ground.data }, { on := 3, ground := Ground.data }, { on := 0, ground := Ground.phase }, { on := 1, ground := Ground.phase }, { on := 2, ground := Ground.phase }, { on := 3, ground := Ground.phase }, { on := 4, ground := Ground.textOnly Departure.lateStores }, { on := 5, ground := Ground.textOnly Departure.lateStores }, { on := 6, ground := Ground.textOnly Departure.lateStores }, { on := 7, ground := Ground.textOnly Departure.lateStores }, { on := 8, ground := Ground.phase }, { on := 9, ground := Ground.phase }], guard := none }) rfl (fun K hK => ?_) AllReadyH.nil
        go_simp; refine hK.out _ _ (by repeat' (first | exact HBD.out | (refine Below.setCell ?_ (by first | omega | (simp; omega) | simp) _) | (refine Below.alloc ?_ (by first | omega | (simp; omega) | simp) _))) (fun hHeld => ?_)
        clear hK K
        try simp only [Act.put, List.setIfInBounds_toArray, List.set_cons_zero, List.set_cons_succ]
        refine wpAnyH_ready (rs := [11]) (by kernel_rfl) (by simp) ?_
        refine AllReadyH.cons (o := { dst := none, op := Op.store 40 (Operand.tmp 7) (Operand.tmp 26), type := 0, pos := "ref.go:249", after := #[{ on := 9, ground := Ground.data }, { on := 7, ground := Ground.data }, { on := 10, ground := Ground.chain }, { on := 0, ground := Ground.phase }, { on := 1, ground := Ground.phase }, { on := 2, ground := Ground.phase }, { on := 3, ground := Ground.phase }, { on := 4, ground := Ground.phase }, { on := 5, ground := Ground.phase }, { on := 6, ground := Ground.phase }, { on := 7, ground := Ground.phase }, { on := 8, ground := Ground.phase }, { on := 9, ground := Ground.phase }, { on := 10, ground := Ground.phase }], guard := none }) rfl (fun K hK => ?_) AllReadyH.nil
        go_simp; refine hK.out _ _ (by repeat' (first | exact HBD.out | (refine Below.setCell ?_ (by first | omega | (simp; omega) | simp) _) | (refine Below.alloc ?_ (by first | omega | (simp; omega) | simp) _))) (fun hHeld => ?_)
        clear hK K
        try simp only [Act.put, List.setIfInBounds_toArray, List.set_cons_zero, List.set_cons_succ]
        refine wpAnyH_done (by kernel_rfl) ?_ _
        go_wp2_with fail
        go_meet
        first | exact ⟨_, _, rfl, rfl, (HTW.out wd).1, (HTW.out wd).2, (HBD.out.alloc HBD.out.size _).alloc (by simp; omega) _⟩ | exact ⟨_, _, rfl, rfl, (HTV.out wd).2, (HTV.out wd).1, (HBD.out.alloc HBD.out.size _).alloc (by simp; omega) _⟩
      case rest =>
        rename World => w7
        obtain ⟨g, h, rfl, rfl, hx7, hy7, hb7⟩ := hcut
        obtain ⟨x0, x1, x2, x3, x4, x5⟩ := bxs_cells hx7
        obtain ⟨y0, y1, y2, y3, y4, y5⟩ := bxs_cells hy7
        have HB7 := hid hb7
        have hox := HXO.out.1.below hb7
        have hoy := HXO.out.2.below hb7
        have HCX := hid (conv_row x.dp x.dc x.data hox.data)
        have HCY := hid (conv_row y.dp y.dc y.data hoy.data)
        have HRE : Hid (Calls Try.prog 72 #[.slice x.rp x.rel.length x.rc, .slice y.rp y.rel.length y.rc] w7 fun e w' => e = .returned (.bool (decide (x.rel = y.rel))) ∧ Below w7.heap.size w7 w') :=
          rrels_any _ _ _ _ x.rel y.rel w7 hox.rel hoy.rel (by have := hox.rcap; omega) (by have := hoy.rcap; omega)
        have hD : q = (decide (x.name = y.name) && decide (x.kind = y.kind) && decide (x.align = y.align) && decide (x.size = y.size) && decide (x.data = y.data) && decide (x.rel = y.rel)) := by
          rw [HQQ.out, Bool.eq_iff_iff]; simp [con_eq, and_assoc]
        have hst : (strOfNums x.data).toList = (strOfNums y.data).toList ↔ x.data = y.data := by
          rw [Lib.strOfNums_toList, Lib.strOfNums_toList]
          exact ⟨fun e => bytes_inj _ _ hox.bytes hoy.bytes e, fun e => by rw [e]⟩
        have HNO : Hid (q = false → B = false) := fun hq => by
          rw [HB.out]; refine decide_eq_false fun e => ?_
          rw [e] at HX
          have e3 := Option.some.inj (HX.out.1.symm.trans HX.out.2)
          have := HQQ.out
          rw [decide_eq_true e3, hq] at this; cases this
        have HYES : Hid (q = true → ∀ j, j < k + 1 → (l.map Sc.con)[j]? = (m.map Sc.con)[j]?) := fun hq j hj => by
          have hxy := of_decide_eq_true (HQQ.out.symm.trans hq)
          by_cases e : j = k
          · subst e; rw [HX.out.1, HX.out.2, hxy]
          · exact HQ.out j (by omega)
        clear c0 c1 c2 c3 c4 c5 d0 d1 d2 d3 d4 d5 hb7 hx7 hy7 hox hoy hbw
        obtain ⟨an, ak, aa, az, ad, adp, adc, ar, arp, arc⟩ := x
        obtain ⟨bn, bk, ba, bz, bd, bdp, bdc, br, brp, brc⟩ := y
        dsimp only at *
        have hc1 := HCX.out
        have hc2 := HCY.out
        obtain ⟨sx, hsx⟩ : ∃ sx, sx = strOfNums ad := ⟨_, rfl⟩
        obtain ⟨sy, hsy⟩ : ∃ sx, sx = strOfNums bd := ⟨_, rfl⟩
        rw [← hsx] at hc1 hst
        rw [← hsy] at hc2 hst
        obtain ⟨DD, hDD⟩ : ∃ q, q = decide (ad = bd) := ⟨_, rfl⟩
        obtain ⟨DR, hDR⟩ : ∃ q, q = decide (ar = br) := ⟨_, rfl⟩
        have hse : (sx.toList == sy.toList) = DD := by
          rw [hDD, Bool.eq_iff_iff]; simp [hst]
        have hse' : (sx.toList != sy.toList) = !DD := by unfold bne; rw [hse]
        rw [← hDD] at hD
        rw [← hDR] at hD HRE
        clear hsx hsy hst hDD hDR HCX HCY
        by_cases h1 : an = bn
        case neg =>
          have e1 := strNe h1
          have e1' : (an.toList != bn.toList) = true := by unfold bne; rw [e1]; rfl
          have H : Hid (B = false) := HNO.out (by rw [hD]; simp [h1])
          clear hD h1
          go_wp2
          all_goals go_ret
          all_goals exact ⟨ret_bool H.out.symm, HB7.out⟩
        have e1 := strEq h1
        have e1' : (an.toList != bn.toList) = false := by unfold bne; rw [e1]; rfl
        by_cases h2 : ak = bk
        case neg =>
          have e2 : (ak == bk) = false := beq_eq_false_iff_ne.2 h2
          have e2' : (ak != bk) = true := by unfold bne; rw [e2]; rfl
          have H : Hid (B = false) := HNO.out (by rw [hD]; simp [h2])
          clear hD h1 h2
          go_wp2
          all_goals go_ret
          all_goals exact ⟨ret_bool H.out.symm, HB7.out⟩
        have e2 : (ak == bk) = true := beq_iff_eq.2 h2
        have e2' : (ak != bk) = false := by unfold bne; rw [e2]; rfl
        by_cases h3 : aa = ba
        case neg =>
          have e3 : (aa == ba) = false := beq_eq_false_iff_ne.2 h3
          have e3' : (aa != ba) = true := by unfold bne; rw [e3]; rfl
          have H : Hid (B = false) := HNO.out (by rw [hD]; simp [h3])
          clear hD h1 h2 h3
          go_wp2
          all_goals go_ret
          all_goals exact ⟨ret_bool H.out.symm, HB7.out⟩
        have e3 : (aa == ba) = true := beq_iff_eq.2 h3
        have e3' : (aa != ba) = false := by unfold bne; rw [e3]; rfl
        by_cases h4 : az = bz
        case neg =>
          have e4 : (az == bz) = false := beq_eq_false_iff_ne.2 h4
          have e4' : (az != bz) = true := by unfold bne; rw [e4]; rfl
          have H : Hid (B = false) := HNO.out (by rw [hD]; simp [h4])
          clear hD h1 h2 h3 h4
          go_wp2
          all_goals go_ret
          all_goals exact ⟨ret_bool H.out.symm, HB7.out⟩
        have e4 : (az == bz) = true := beq_iff_eq.2 h4
        have e4' : (az != bz) = false := by unfold bne; rw [e4]; rfl
        have hqq : q = (DD && DR) := by rw [hD]; simp [h1, h2, h3, h4]
        have HQD := hid hqq
        clear hD h1 h2 h3 h4 hqq
        cases DD with
        | false =>
          have H : Hid (B = false) := HNO.out (by rw [HQD.out]; rfl)
          go_wp2
          all_goals go_ret
          all_goals exact ⟨ret_bool H.out.symm, HB7.out⟩
        | true =>
          cases DR with
          | false =>
            have H : Hid (B = false) := HNO.out (by rw [HQD.out]; rfl)
            go_wp2_with (go_at_call 72; go_loud ((with_reducible refine HRE.out.mono ?_); rintro e w3 ⟨rfl, hb3⟩; have HB3 := hid hb3; clear hb3))
            go_ret
            exact ⟨ret_bool H.out.symm, HB7.out.trans (HB3.out.mono HB7.out.size)⟩
          | true =>
            have H := hid (HYES.out (by rw [HQD.out]; rfl))
            go_wp2_with (go_at_call 72; go_loud ((with_reducible refine HRE.out.mono ?_); rintro e w3 ⟨rfl, hb3⟩; have HB3 := hid hb3; clear hb3))
            exact ⟨⟨k + 1, by omega, by go_num, HB7.out.trans (HB3.out.mono HB7.out.size), H.out⟩, by simp [intOf]; omega⟩
    · have hke : k = N := by omega
      subst hke
      have hBt : Hid (B = true) := by
        show _ = _
        rw [HB.out]; refine decide_eq_true (List.ext_getElem? fun j => ?_)
        by_cases hj : j < k
        · exact HQ.out j hj
        · rw [List.getElem?_eq_none (by have := HN.out.1; simp; omega), List.getElem?_eq_none (by have := HN.out.2; simp; omega)]
      go_wp2_with (fail)
      go_ret
      exact ⟨ret_bool hBt.out.symm, HBW.out⟩
end Go.Proofs.Yteccpmmedpkddaa
namespace Go.Proofs.Yteccpmmedpkddaa
open Go.RowKit
variable {W w w' : World}
theorem obx_cells {b : Nat} {o : Ob} (h : W.heap[b]? = some (.cells o.cells.toArray 25 (0, 0))) : W.cell? ⟨b, 0, none⟩ = some (.slice o.sp o.secs.length o.sc) ∧ W.cell? ⟨b, 1, none⟩ = some (.slice o.yp o.syms.length o.yc) :=
  ⟨cell_of_row _ _ 0 _ _ _ h, cell_of_row _ _ 1 _ _ _ h⟩
set_option maxRecDepth 20000 in
set_option maxHeartbeats 4000000 in
theorem rsame_any (a b : Ob) (w : World) (ha : a.rd w) (hb : b.rd w) : Calls Try.prog 29 #[.agg a.cells.toArray, .agg b.cells.toArray] w fun e w' => e = .returned (.bool (decide (a.con = b.con))) ∧ Below w.heap.size w w' := by
  have HSE : Hid (∀ w1, Below w.heap.size w w1 → Calls Try.prog 56 #[.slice a.sp a.secs.length a.sc, .slice b.sp b.secs.length b.sc] w1 fun e w' => e = .returned (.bool (decide (a.secs.map Sc.con = b.secs.map Sc.con))) ∧ Below w1.heap.size w1 w') := fun w1 h1 =>
    rsecs_any _ _ _ _ a.secs b.secs w1 (ha.secs.below h1) (hb.secs.below h1) (sc_ok_list ha.each h1) (sc_ok_list hb.each h1) (by have := ha.scap; omega) (by have := hb.scap; omega)
  have hD : decide (a.con = b.con) = (decide (a.secs.map Sc.con = b.secs.map Sc.con) && decide (a.syms = b.syms)) := by
    rw [Bool.eq_iff_iff]; simp [obcon_eq]
  obtain ⟨D, hDD⟩ : ∃ D, D = decide (a.con = b.con) := ⟨_, rfl⟩
  rw [← hDD] at hD ⊢
  have HH := hid (And.intro ha.syms hb.syms)
  have hna := ha.ycap
  have hnb := hb.ycap
  clear hDD ha hb
  obtain ⟨W2, hW2⟩ : ∃ W2, W2 = (w.alloc (.cells a.cells.toArray 25)).alloc (.cells b.cells.toArray 25) := ⟨_, rfl⟩
  have hbx : Below w.heap.size w W2 := by rw [hW2]; exact ((Below.refl _ _).alloc (Nat.le_refl _) _).alloc (by simp) _
  have hy1 : W2.heap[w.heap.size]? = some (.cells a.cells.toArray 25 (0, 0)) := by rw [hW2]; exact (Below.heap_alloc _ _ _ (by simp)).trans (heap_alloc_new _ _)
  have hy2 : W2.heap[w.heap.size + 1]? = some (.cells b.cells.toArray 25 (0, 0)) := by
    have := heap_alloc_new (w.alloc (.cells a.cells.toArray 25)) (.cells b.cells.toArray 25)
    rw [World.size_alloc] at this
    rw [hW2]; exact this
  have HW2 := hid hW2
  have HBX := hid hbx
  have hz1 : w.heap.size < W2.heap.size := (Array.getElem?_eq_some_iff.1 hy1).1
  have hz2 : w.heap.size + 1 < W2.heap.size := (Array.getElem?_eq_some_iff.1 hy2).1
  have HC : Hid (∀ w', Below W2.heap.size W2 w' → (w'.cell? ⟨w.heap.size, 0, none⟩ = some (.slice a.sp a.secs.length a.sc) ∧ w'.cell? ⟨w.heap.size, 1, none⟩ = some (.slice a.yp a.syms.length a.yc)) ∧ (w'.cell? ⟨w.heap.size + 1, 0, none⟩ = some (.slice b.sp b.secs.length b.sc) ∧ w'.cell? ⟨w.heap.size + 1, 1, none⟩ = some (.slice b.yp b.syms.length b.yc))) := fun w' hw =>
    ⟨obx_cells ((hw.block _ hz1).trans hy1), obx_cells ((hw.block _ hz2).trans hy2)⟩
  obtain ⟨sa, sap, sac, ya, yap, yac⟩ := a
  obtain ⟨sb, sbp, sbc, yb, ybp, ybc⟩ := b
  unfold Ob.cells at HW2
  dsimp only at HSE hD HW2 HC HH hna hnb
  show Calls Try.prog 29 #[.agg #[.slice sap sa.length sac, .slice yap ya.length yac], .agg #[.slice sbp sb.length sbc, .slice ybp yb.length ybc]] w _
  obtain ⟨DD, hDD⟩ : ∃ q, q = decide (sa.map Sc.con = sb.map Sc.con) := ⟨_, rfl⟩
  rw [← hDD] at HSE hD
  have H := hid hD
  obtain ⟨N, hN⟩ : ∃ N, N = ya.length := ⟨_, rfl⟩
  obtain ⟨M, hM⟩ : ∃ N, N = yb.length := ⟨_, rfl⟩
  rw [← hN] at HC HW2 hna ⊢
  rw [← hM] at HC HW2 hnb ⊢
  have HN := hid (And.intro hN hM)
  have hna1 : N ≤ 4398046510976 := by omega
  have hnb1 : M ≤ 4398046510976 := by omega
  obtain ⟨⟨c0, c1⟩, d0, d1⟩ := HC.out W2 (Below.refl _ _)
  clear hDD hD hy1 hy2 hW2 hbx hna hnb hN hM
  go_enter Try.func29, Try.ntmps29
  go_upto_region 1 with (fail)
  rw [← HW2.out]
  go_wp2_with (fail)
  refine (HSE.out _ HBX.out).mono ?_
  rintro e w3 ⟨rfl, hb3⟩
  have HB3 := hid hb3
  clear c0 c1 d0 d1
  obtain ⟨⟨c0, c1⟩, d0, d1⟩ := HC.out w3 hb3
  clear hb3
  dsimp only
  have HBB : Hid (∀ w', Below W2.heap.size W2 w' → Below w.heap.size w w') := fun w' h => HBX.out.trans (h.mono HBX.out.size)
  cases DD with
  | false =>
    go_wp2_with fail
    go_ret
    exact ⟨ret_bool (by rw [H.out]; rfl), HBB.out _ HB3.out⟩
  | true =>
    by_cases hlen : N = M
    case neg =>
      have hz : ¬ (N : Int) = (M : Int) := by omega
      have hz' : ((N : Int) != (M : Int)) = true := by simpa using hz
      have HD : Hid (D = false) := by
        show _ = _
        rw [H.out, Bool.true_and]; refine decide_eq_false fun e => hlen ?_
        rw [HN.out.1, HN.out.2, e]
      go_wp2_with fail
      go_ret
      exact ⟨ret_bool HD.out.symm, HBB.out _ HB3.out⟩
    subst hlen
    clear c0 d0
    go_wp2_with fail
    go_loopw [5] (fun i wr => ∃ (k : Nat), k ≤ N ∧ i = .int .i64 k ∧ Below W2.heap.size W2 wr ∧ ∀ j, j < k → ya[j]? = yb[j]?) (fun i _ => N - (intOf i).toNat)
    case atStart => exact ⟨0, by omega, rfl, HB3.out, fun j h => absurd h (Nat.not_lt_zero _)⟩
    case round =>
      rename World => wr
      obtain ⟨k, hk, rfl, hbw, heq⟩ := hrel
      clear c1 d1
      have HQ := hid heq
      clear heq
      have HBW := hid hbw
      obtain ⟨⟨-, q1⟩, -, q2⟩ := HC.out wr hbw
      by_cases hlt : k < N
      · have hkI : (k : Int) < N := by omega
        have k1 : k < ya.length := by rw [← HN.out.1]; exact hlt
        have k2 : k < yb.length := by rw [← HN.out.2]; exact hlt
        have rA := HH.out.1
        have rB := HH.out.2
        obtain ⟨b1, o1, rfl, hbl1, -⟩ := rA.at (by rw [flat_len Sy.cells 4 (fun _ => rfl)]; omega)
        obtain ⟨b2, o2, rfl, hbl2, -⟩ := rB.at (by rw [flat_len Sy.cells 4 (fun _ => rfl)]; omega)
        have A := fun (w' : World) (hw : Below W2.heap.size W2 w') => sy_cells (rA.below (HBB.out w' hw)) k k1
        have E := fun (w' : World) (hw : Below W2.heap.size W2 w') => sy_cells (rB.below (HBB.out w' hw)) k k2
        have HX : Hid (ya[k]? = some ya[k] ∧ yb[k]? = some yb[k]) := ⟨List.getElem?_eq_getElem k1, List.getElem?_eq_getElem k2⟩
        clear rA rB
        generalize ya[k] = x at A HX
        generalize yb[k] = y at E HX
        have hne := run_neq_sy x y
        obtain ⟨q, hq⟩ : ∃ q, q = (!decide (x = y)) := ⟨_, rfl⟩
        have HQQ := hid hq
        rw [← hq] at hne
        have e0 := fun w' hw => (A w' hw).1
        have e1 := fun w' hw => (A w' hw).2.1
        have e2 := fun w' hw => (A w' hw).2.2.1
        have e3 := fun w' hw => (A w' hw).2.2.2
        have f0 := fun w' hw => (E w' hw).1
        have f1 := fun w' hw => (E w' hw).2.1
        have f2 := fun w' hw => (E w' hw).2.2.1
        have f3 := fun w' hw => (E w' hw).2.2.2
        have g1 := fun w' hw => (HC.out w' hw).1.2
        have g2 := fun w' hw => (HC.out w' hw).2.2
        clear A E hq
        cases q with
        | true =>
          have hBf : Hid (D = false) := by
            show _ = _
            rw [H.out, Bool.true_and]; refine decide_eq_false fun e => ?_
            subst e
            have e2 := HX.out.1.symm.trans HX.out.2
            have e3 : x = y := Option.some.inj e2
            have := HQQ.out
            rw [decide_eq_true e3] at this; cases this
          go_wp2_with (fail)
          go_upto_region 6 with (fail)
          go_region_held3 (fun w' => Below W2.heap.size W2 w') (first | (with_reducible assumption) | exact hbw.drew) (first | fail)
          go_wp2_with (fail)
          go_ret
          exact ⟨ret_bool hBf.out.symm, HBB.out _ HBW.out.drew⟩
        | false =>
          have hxy : Hid (x = y) := by
            have := HQQ.out
            show _ = _
            apply Classical.byContradiction
            intro hn
            rw [decide_eq_false hn] at this; cases this
          go_wp2_with (fail)
          go_upto_region 6 with (fail)
          go_region_held3 (fun w' => Below W2.heap.size W2 w') (first | (with_reducible assumption) | exact hbw.drew) (first | fail)
          go_wp2_with (fail)
          exact ⟨⟨k + 1, by omega, by go_num, HBW.out.drew, fun j hj => by
            by_cases e : j = k
            · subst e; rw [HX.out.1, HX.out.2, hxy.out]
            · exact HQ.out j (by omega)⟩, by simp [intOf]; omega⟩
      · have hke : k = N := by omega
        subst hke
        have hBt : Hid (D = true) := by
          show _ = _
          rw [H.out, Bool.true_and]; refine decide_eq_true (List.ext_getElem? fun j => ?_)
          by_cases hj : j < k
          · exact HQ.out j hj
          · rw [List.getElem?_eq_none (by have := HN.out.1; omega), List.getElem?_eq_none (by have := HN.out.2; omega)]
        go_wp2_with (fail)
        go_ret
        exact ⟨ret_bool hBt.out.symm, HBB.out _ HBW.out⟩
end Go.Proofs.Yteccpmmedpkddaa
