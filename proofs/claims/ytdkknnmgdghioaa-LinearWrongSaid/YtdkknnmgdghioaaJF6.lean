/-
  Find: an order in which the calls could have come.
  The law's own history: its order is the one that is told.
  few: short histories.
  Which calls may be: the document's.
-/
import Derived.Test.YtdkknnmgdghioaaJF5
import Derived.Test.YtdkknnmgdghioaaJF1
namespace Go.Proofs.Ytdkknnmgdghioaa
open Go.RowKit
attribute [local go_sem] Oper.semAt_some
attribute [local go_sem] wide_fn wide_depth

def FindTell (l : List Cl) (w : World) (e : Ending) (w' : World) : Prop :=
  ∃ (v : Value) (o : List Nat) (is : Bool), e = .returned (.tuple #[v, .bool is, .int .i64 (chkL l)]) ∧ FindIs l o is (chkL l) ∧ OwnI w' w.heap.size v o ∧ Below w.heap.size w w'
theorem find_no {l : List Cl} (h : chkL l ≠ 0) : FindIs l [] false (chkL l) := ⟨rfl, fun _ => rfl, fun e => absurd e h, fun e => (by cases e), fun _ => rfl⟩
theorem find_non {l : List Cl} (h : ¬ Lin l) : FindIs l [] false (chkL l) := ⟨rfl, fun _ => rfl, fun _ => ⟨fun e => (by cases e), fun e => absurd e h⟩, fun e => (by cases e), fun _ => rfl⟩
theorem find_is {l : List Cl} {o : List Nat} (hz : chkL l = 0) (h : Legal l o) : FindIs l o true (chkL l) := ⟨rfl, fun e => absurd hz e, fun _ => ⟨fun _ => ⟨o, h⟩, fun _ => rfl⟩, fun _ => h, fun e => (by cases e)⟩
theorem kpt_below {n₀ : Nat} {S : TypeId → Bool} {W W' : World} (hn : n₀ ≤ W.heap.size) (hb : Below W.heap.size W W') : KpT n₀ S W W' := ⟨hb.mono hn, hb.size, fun _ _ _ _ _ hk => (hb.block _ (Array.getElem?_eq_some_iff.1 hk).1).trans hk⟩
theorem keeps_below {n : Nat} {W W' : World} (hb : Below W.heap.size W W') : KeepsFrom n W W' := ⟨hb.size, fun _ _ _ hk _ => (hb.block _ (Array.getElem?_eq_some_iff.1 hk).1).trans hk⟩
theorem own_nil0 (w : World) (base : Nat) : OwnI w base (.slice none 0 0) [] := ⟨rfl, .inl ⟨rfl, rfl⟩⟩
/-- Find's four blocks at its beginning. -/
theorem fd_start (l : List Cl) (p : Option Addr) (c : Nat) (w : World) : ∃ W, W = (((w.alloc (.cells #[.slice p l.length c] 22)).alloc (.cells #[.slice none 0 0] 25)).alloc (.cells #[.bool false] 4)).alloc (.cells #[.int .i64 0] 26) ∧
    W.heap[w.heap.size]? = some (.cells #[.slice p l.length c] 22 (0, 0)) ∧ W.heap[w.heap.size + 1]? = some (.cells #[.slice none 0 0] 25 (0, 0)) ∧ W.heap[w.heap.size + 2]? = some (.cells #[.bool false] 4 (0, 0)) ∧ W.heap[w.heap.size + 3]? = some (.cells #[.int .i64 0] 26 (0, 0)) ∧ W.heap.size = w.heap.size + 4 ∧ Below w.heap.size w W := by
  refine ⟨_, rfl, ?_, ?_, ?_, ?_, by simp, (((((Below.refl _ w).alloc (Nat.le_refl _) _).alloc (by simp) _).alloc (by simp <;> omega) _).alloc (by simp <;> omega) _)⟩
  · exact (Below.heap_alloc _ _ _ (by simp <;> omega)).trans ((Below.heap_alloc _ _ _ (by simp <;> omega)).trans ((Below.heap_alloc _ _ _ (by simp)).trans (heap_alloc_new w _)))
  · have := heap_alloc_new (w.alloc (.cells #[.slice p l.length c] 22)) (.cells #[.slice none 0 0] 25)
    rw [World.size_alloc] at this
    exact (Below.heap_alloc _ _ _ (by simp <;> omega)).trans ((Below.heap_alloc _ _ _ (by simp)).trans this)
  · have := heap_alloc_new ((w.alloc (.cells #[.slice p l.length c] 22)).alloc (.cells #[.slice none 0 0] 25)) (.cells #[.bool false] 4)
    rw [World.size_alloc, World.size_alloc] at this
    exact (Below.heap_alloc _ _ _ (by simp)).trans this
  · have := heap_alloc_new (((w.alloc (.cells #[.slice p l.length c] 22)).alloc (.cells #[.slice none 0 0] 25)).alloc (.cells #[.bool false] 4)) (.cells #[.int .i64 0] 26)
    rwa [World.size_alloc, World.size_alloc, World.size_alloc] at this
set_option maxRecDepth 20000 in
set_option maxHeartbeats 4000000 in
theorem find_bad (l : List Cl) (p : Option Addr) (c : Nat) (w : World) (hl : l.length ≤ 1000000) (hc : l.length ≤ c) (hrow : Row w p (l.flatMap Cl.cells)) (hz : chkL l ≠ 0) :
    Calls Try.prog 10 #[.slice p l.length c] w (FindTell l w) := by
  obtain ⟨W0, hW0, g0, g1, g2, g3, hs0, hb0⟩ := fd_start l p c w
  have HC := hid (check_any l p c W0 hl hc (hrow.below hb0))
  unfold ChkTell at HC
  have HN := hid (find_no hz)
  have HW := hid hW0
  have hz1 : (chkL l != 0) = true := by simpa using hz
  have hz2 : (chkL l == 0) = false := by simpa using hz
  have HG := hid (⟨g1, g2, g3⟩ : _ ∧ _ ∧ _)
  have y0 := cell_of_row _ _ 0 _ _ _ g0
  simp only [List.getElem?_toArray, List.getElem?_cons_zero] at y0
  have HB0 := hid hb0
  clear hrow hz hW0 g0 g1 g2 g3 hb0
  generalize hch : chkL l = ch at *
  have HCH := hid hch
  clear hch
  go_enter Try.func10, Try.ntmps10
  go_upto_region 1 with (fail)
  rw [← HW.out]
  go_wp2_with (go_at_call 19; (with_reducible refine HC.out.mono ?_); rintro e w1 ⟨rfl, hb1⟩; have HB1 := hid hb1; have h1 := (hb1.block _ (by omega : w.heap.size + 1 < W0.heap.size)).trans HG.out.1; have h2 := (hb1.block _ (by omega : w.heap.size + 2 < W0.heap.size)).trans HG.out.2.1; have h3 := (hb1.block _ (by omega : w.heap.size + 3 < W0.heap.size)).trans HG.out.2.2; have c1 := cell_of_row _ _ 0 _ _ _ h1; have c2 := cell_of_row _ _ 0 _ _ _ h2; have c3 := cell_of_row _ _ 0 _ _ _ h3; have f1 : w1.frozen? ⟨w.heap.size + 1, 0, none⟩ = false := frozen_of_row _ _ _ _ _ h1; have f2 : w1.frozen? ⟨w.heap.size + 2, 0, none⟩ = false := frozen_of_row _ _ _ _ _ h2; have f3 : w1.frozen? ⟨w.heap.size + 3, 0, none⟩ = false := frozen_of_row _ _ _ _ _ h3; simp only [List.getElem?_toArray, List.getElem?_cons_zero] at c1 c2 c3; clear hb1 h1 h2 h3)
  refine bodyPost_ret (v := .tuple #[.slice none 0 0, .bool false, .int .i64 ch]) (by simp [results, Try.results10, go_sem, c1, c2, c3, f1, f2, f3]) rfl ?_
  unfold FindTell
  rw [HCH.out]
  exact ⟨_, [], false, rfl, HN.out, own_nil0 _ _, (((HB0.out.trans (HB1.out.mono (by omega))).setCell (by simp) _).setCell (by simp <;> omega) _).setCell (by simp <;> omega) _⟩
/-- All names have their rows: merged, they are an order. -/
theorem find_fin {l : List Cl} {rows : List (List Nat)} (ho : HistOk l) (hm : ∀ i, i < l.length → (cAt l i).to ≤ maxI) (hlen : rows.length = (keysF l).length) (hr : ∀ j (h : j < (keysF l).length), RowOk l (keysF l)[j] (rows.getD j [])) :
    (∀ r ∈ rows, RowG l r) ∧ (∀ i ∈ rows.flatten, i < l.length) ∧ Legal l (mergeN l rows.flatten.length rows) ∧ rows.flatten.length ≤ l.length := by
  have hk : ∀ r ∈ rows, ∃ k, RowOk l k r := fun r hrm => by
    obtain ⟨j, hj, rfl⟩ := List.getElem_of_mem hrm
    have := hr j (by omega)
    rw [List.getD_eq_getElem?_getD, List.getElem?_eq_getElem hj] at this
    exact ⟨_, this⟩
  have h1 : ∀ r ∈ rows, RowG l r := fun r hrm => by obtain ⟨k, h⟩ := hk r hrm; exact h.g
  have h2 : ∀ i ∈ rows.flatten, i < l.length := fun i hi => by
    obtain ⟨r, hrm, hir⟩ := List.mem_flatten.1 hi
    obtain ⟨k, h⟩ := hk r hrm
    exact (h.lt i hir).1
  have h3 := find_yes ho hm hlen hr rows.flatten.length (Nat.le_refl _)
  refine ⟨h1, h2, h3, ?_⟩
  have h4 := (merge_ok l rows.flatten.length rows (Nat.le_refl _) h1 (fun i hi => ho.at i (h2 i hi)) (fun i hi => hm i (h2 i hi))).1.length_eq
  have h5 := legal_len h3
  omega
theorem keysF_len (l : List Cl) : (keysF l).length ≤ l.length := by
  have h : ∀ (l : List Cl) (acc : List ByteArray), (l.foldl keyStep acc).length ≤ acc.length + l.length := by
    intro l
    induction l with
    | nil => intro acc; simp
    | cons c l ih =>
      intro acc
      have h1 := ih (keyStep acc c)
      have h2 : (keyStep acc c).length ≤ acc.length + 1 := by unfold keyStep; split <;> simp
      rw [List.foldl_cons, List.length_cons]; omega
  simpa [keysF] using h l []
theorem EOut2 : Elem Try.prog 42 25 1 24 (.slice none 0 0) := EOut
/-- How Find's loop is left: no row, the results as they began. -/
structure FdX (l : List Cl) (w W : World) : Prop where
  no : ¬ Lin l
  r1 : W.heap[w.heap.size + 1]? = some (.cells #[.slice none 0 0] 25 (0, 0))
  r2 : W.heap[w.heap.size + 2]? = some (.cells #[.bool false] 4 (0, 0))
  r3 : W.heap[w.heap.size + 3]? = some (.cells #[.int .i64 0] 26 (0, 0))
  below : Below w.heap.size w W
theorem FdX.kept {l : List Cl} {w W W' : World} {B : Nat} (h : FdX l w W) (hB : w.heap.size + 4 ≤ B) {row : Option Nat} (hg : W.grownBy W' row) (hr : ∀ r, row = some r → B ≤ r) : FdX l w W' := by
  have hk : ∀ {k : Nat} {o : Obj}, k < B → W.heap[k]? = some o → W'.heap[k]? = some o := fun hk h => heap_keptP hg (fun e => by have := hr _ e.symm; omega) h
  exact ⟨h.no, hk (by omega) h.r1, hk (by omega) h.r2, hk (by omega) h.r3, h.below.grown hg h.below.size (fun k e => by have := hr k e; omega)⟩
theorem FdX.of {l : List Cl} {p : Option Addr} {c r6 : Nat} {w W : World} {pre : List ByteArray} {vo : Value} {vals : List Value} {rows : List (List Nat)} (h : FdI l p c r6 w pre vo vals rows W) (hn : ¬ Lin l) : FdX l w W := ⟨hn, h.r1, h.r2, h.r3, h.below⟩
theorem FdX.set {l : List Cl} {w W : World} (h : FdX l w W) : FdX l w (((W.setCell ⟨w.heap.size + 1, 0, none⟩ (.slice none 0 0)).setCell ⟨w.heap.size + 2, 0, none⟩ (.bool false)).setCell ⟨w.heap.size + 3, 0, none⟩ (.int .i64 0)) :=
  ⟨h.no, (Below.heap_setCell _ _ _ _ (by simp)).trans ((Below.heap_setCell _ _ _ _ (by simp)).trans (heap_setCell_same _ _ 0 _ _ _ h.r1)),
    (Below.heap_setCell _ _ _ _ (by simp)).trans (heap_setCell_same _ _ 0 _ _ _ ((Below.heap_setCell _ _ _ _ (by simp)).trans h.r2)),
    heap_setCell_same _ _ 0 _ _ _ ((Below.heap_setCell _ _ _ _ (by simp)).trans ((Below.heap_setCell _ _ _ _ (by simp)).trans h.r3)),
    ((h.below.setCell (by simp) _).setCell (by simp) _).setCell (by simp) _⟩
theorem fd_set3 {B : Nat} {W : World} {v1 v2 v3 u1 u2 u3 : Value} {T1 T2 T3 : TypeId} (h1 : W.heap[B + 1]? = some (.cells #[v1] T1 (0, 0))) (h2 : W.heap[B + 2]? = some (.cells #[v2] T2 (0, 0))) (h3 : W.heap[B + 3]? = some (.cells #[v3] T3 (0, 0))) :
    (((W.setCell ⟨B + 1, 0, none⟩ u1).setCell ⟨B + 2, 0, none⟩ u2).setCell ⟨B + 3, 0, none⟩ u3).heap[B + 1]? = some (.cells #[u1] T1 (0, 0)) ∧ (((W.setCell ⟨B + 1, 0, none⟩ u1).setCell ⟨B + 2, 0, none⟩ u2).setCell ⟨B + 3, 0, none⟩ u3).heap[B + 2]? = some (.cells #[u2] T2 (0, 0)) ∧ (((W.setCell ⟨B + 1, 0, none⟩ u1).setCell ⟨B + 2, 0, none⟩ u2).setCell ⟨B + 3, 0, none⟩ u3).heap[B + 3]? = some (.cells #[u3] T3 (0, 0)) :=
  ⟨(Below.heap_setCell _ _ _ _ (by simp)).trans ((Below.heap_setCell _ _ _ _ (by simp)).trans (heap_setCell_same _ _ 0 _ _ _ h1)),
    (Below.heap_setCell _ _ _ _ (by simp)).trans (heap_setCell_same _ _ 0 _ _ _ ((Below.heap_setCell _ _ _ _ (by simp)).trans h2)),
    heap_setCell_same _ _ 0 _ _ _ ((Below.heap_setCell _ _ _ _ (by simp)).trans ((Below.heap_setCell _ _ _ _ (by simp)).trans h3))⟩
theorem fd_cells {B d : Nat} {W : World} {u1 u2 u3 : Value} {T1 T2 T3 : TypeId} (hd : B + 4 ≤ d) (h : W.heap[B + 1]? = some (.cells #[u1] T1 (0, 0)) ∧ W.heap[B + 2]? = some (.cells #[u2] T2 (0, 0)) ∧ W.heap[B + 3]? = some (.cells #[u3] T3 (0, 0))) (o : Obj) :
    (W.putObj d o).cell? ⟨B + 1, 0, none⟩ = some u1 ∧ (W.putObj d o).cell? ⟨B + 2, 0, none⟩ = some u2 ∧ (W.putObj d o).cell? ⟨B + 3, 0, none⟩ = some u3 :=
  ⟨cell_of_row _ _ 0 _ _ _ ((World.putObj_heap_other (by omega)).trans h.1), cell_of_row _ _ 0 _ _ _ ((World.putObj_heap_other (by omega)).trans h.2.1), cell_of_row _ _ 0 _ _ _ ((World.putObj_heap_other (by omega)).trans h.2.2)⟩
theorem fd_first {l : List Cl} {p : Option Addr} {c : Nat} {w W0 w1 w3 : World} (h0 : W0.heap[w.heap.size]? = some (.cells #[.slice p l.length c] 22 (0, 0))) (h1 : W0.heap[w.heap.size + 1]? = some (.cells #[.slice none 0 0] 25 (0, 0))) (h2 : W0.heap[w.heap.size + 2]? = some (.cells #[.bool false] 4 (0, 0))) (h3 : W0.heap[w.heap.size + 3]? = some (.cells #[.int .i64 0] 26 (0, 0)))
    (hb0 : Below w.heap.size w W0) (hb1 : Below W0.heap.size W0 w1) (hb3 : Below (w1.alloc (.cells #[.slice none 0 0] 42)).heap.size (w1.alloc (.cells #[.slice none 0 0] 42)) w3) : FdI l p c w1.heap.size w [] (.slice none 0 0) [] [] w3 := by
  have hk : ∀ {k : Nat} {o : Obj}, W0.heap[k]? = some o → w3.heap[k]? = some o := fun h => by
    have e1 := (hb1.block _ (Array.getElem?_eq_some_iff.1 h).1).trans h
    exact (hb3.block _ (by have := (Array.getElem?_eq_some_iff.1 e1).1; simp; omega)).trans ((Below.heap_alloc _ _ _ (Array.getElem?_eq_some_iff.1 e1).1).trans e1)
  exact ⟨hk h0, hk h1, hk h2, hk h3, (hb3.block _ (by simp)).trans (heap_alloc_new w1 _), ⟨rfl, .inl ⟨rfl, rfl⟩⟩, ⟨rfl, fun j hj => by simp at hj⟩, rfl, fun j hj => by simp at hj,
    (hb0.trans (hb1.mono hb0.size)).trans (((Below.refl _ _).alloc (Nat.le_refl _) _).mono (Nat.le_trans hb0.size hb1.size) |>.trans (hb3.mono (by have h5 := hb0.size; have h6 := hb1.size; simp; omega)))⟩
set_option maxRecDepth 20000 in
set_option maxHeartbeats 8000000 in
theorem find_ok (l : List Cl) (p : Option Addr) (c : Nat) (w : World) (hl : l.length ≤ 1000000) (hc : l.length ≤ c) (hp : p = none → c = 0) (hrow : Row w p (l.flatMap Cl.cells)) (hm : ∀ i, i < l.length → (cAt l i).to ≤ maxI) (hz : chkL l = 0) :
    Calls Try.prog 10 #[.slice p l.length c] w (FindTell l w) := by
  obtain ⟨W0, hW0, g0, g1, g2, g3, hs0, hb0⟩ := fd_start l p c w
  have HC := hid (check_any l p c W0 hl hc (hrow.below hb0))
  unfold ChkTell at HC
  rw [hz] at HC
  have HZ := hid hz
  have HO := hid (chk_ok hz).2
  have HM := hid hm
  have HR := hid hrow
  have HW := hid hW0
  have HG := hid (⟨g0, g1, g2, g3⟩ : _ ∧ _ ∧ _ ∧ _)
  have HB0 := hid hb0
  clear hrow hz hW0 g0 g1 g2 g3 hb0 hm
  have y0 := cell_of_row _ _ 0 _ _ _ HG.out.1
  simp only [List.getElem?_toArray, List.getElem?_cons_zero] at y0
  refine callsIn_wide.1 (?_ : CallsIn Fence.wide 8 Try.prog 10 #[.slice p l.length c] w _)
  refine callsIn_of_wp_marks Try.func10 rfl (show Fence.wide.fn _ from trivial) ?_ rfl
  simp only [Try.ntmps10, List.size_toArray, List.length_cons, List.length_nil, Nat.reduceAdd, Nat.reduceSub, Array.replicate_succ, Array.replicate_zero, List.push_toArray, List.append_toArray, List.nil_append, List.cons_append]
  have HKY := hid (fun (W : World) (hb : Below w.heap.size w W) => keys_any p c l W hl hp (HR.out.below hb))
  unfold KeysTell at HKY
  have hs4 : w.heap.size + 4 ≤ W0.heap.size := by omega
  clear hs0
  gi_wp2_with (first
    | (gi_at_call 19; rw [← HW.out]; (with_reducible refine (callsIn_wide.2 HC.out).mono ?_); rintro e w1 ⟨rfl, hb1⟩; have HB1 := hid hb1; have h0 := (hb1.block _ (by omega : w.heap.size < W0.heap.size)).trans HG.out.1; have H0 := hid h0; have z0 := cell_of_row _ _ 0 _ _ _ h0; simp only [List.getElem?_toArray, List.getElem?_cons_zero] at z0; have hz1 := hb1.size; have hzz : w.heap.size < w1.heap.size := (by omega); clear hb1 h0)
    | (gi_at_call 20; (with_reducible refine (callsIn_wide.2 (HKY.out _ ((HB0.out.trans (HB1.out.mono (by omega))).alloc (by omega) _))).mono ?_); rintro e w3 ⟨v3, rfl, hbx3, ho3, hb3⟩; simp only [World.size_alloc] at hbx3 ho3; have HBX3 := hid hbx3; have HO3 := hid ho3; have HB3 := hid hb3; have hz3 := hb3.size; simp only [World.size_alloc] at hz3; clear hbx3 ho3 hb3))
  have hI0 := fd_first HG.out.1 HG.out.2.1 HG.out.2.2.1 HG.out.2.2.2 HB0.out HB1.out HB3.out
  have hseq := keys1_seq 7 (by omega) l hl w.heap.size (fun T => T == 22 || T == 38) rfl rfl (w1.heap.size + 1) v3 w3 HBX3.out _ HO3.out
  have hw13 : w1.heap.size < w3.heap.size := by omega
  have hw14 : w.heap.size + 4 ≤ w1.heap.size := by omega
  have HBW1 : Hid (Below w.heap.size w w1) := HB0.out.trans (HB1.out.mono (by omega))
  clear HC HKY HW HG y0 z0 H0 HBX3 HO3 HB3
  refine wpIn_rangeFunc_O rfl (by omega) (gf := 34) (lb := #[.pointer (some ⟨w1.heap.size + 1, 0, none⟩)]) rfl trivial (enters_of Try.func34 (by kernel_rfl) rfl) hseq
    KpT.trans (fun W l o o' hl h1 h2 h3 => KpT.putObj (by omega) W l o o' hl h1 h2 h3) (Below.refl _ _) (fun _ => rfl)
    (fun pre W' => ∃ vo vals rows, FdI l p c w1.heap.size w pre vo vals rows W') (fun c pre W' => c = .ret ∧ FdX l w W')
    (fun s A B row hs hg hr => by obtain ⟨vo, vals, rows, h⟩ := hs; exact ⟨vo, vals, rows, h.kept (by omega) hw13 hg hr⟩)
    (fun c s A B row hs hg hr => ⟨hs.1, hs.2.kept (B := w3.heap.size) (by omega) hg (fun r e => (hr r e).1)⟩)
    ⟨_, _, _, hI0⟩
    ?act ?assign ?body ?done ?stop
  case assign =>
    intro l x W K hK
    simp only [encK]
    gi_wp2
    exact hK
  case body =>
    rintro l' pre x W1 ⟨vo, vals, rows, hI⟩ hlen
    have HI := hid hI
    have HRO := hid (row_any l p c x W1 hl hc (HR.out.below hI.below))
    unfold RowTell at HRO
    have y0 := cell_of_row _ _ 0 _ _ _ hI.box
    simp only [List.getElem?_toArray, List.getElem?_cons_zero] at y0
    have hw1 : w.heap.size < W1.heap.size := (Array.getElem?_eq_some_iff.1 hI.box).1
    clear hI
    gi_wp2
    (with_reducible refine ((callsIn_wide.2 HRO.out).inRound _).mono ?_)
    rintro e w5 ⟨sb, sa, hP, hb5, (⟨r, v, hr, rfl, hor⟩ | ⟨hr, rfl⟩)⟩
    · have HOK := hid (row_said HO.out hP hr)
      obtain ⟨q, d, rfl, hrq⟩ := own_shape hor
      have HOR := hid hor
      have HB5 := hid hb5
      have HI5 := hid (HI.out.belowI hb5)
      have x0 := cell_of_row _ _ 0 _ _ _ HI5.out.rb
      have f0 : w5.frozen? ⟨w1.heap.size, 0, none⟩ = false := frozen_of_row _ _ _ _ _ HI5.out.rb
      simp only [List.getElem?_toArray, List.getElem?_cons_zero] at x0
      obtain ⟨po, co, rfl, -⟩ := own_shape HI.out.own
      have hz5 := hb5.size
      have hpl := keysF_len l
      have hw15 : w1.heap.size < w5.heap.size := (Array.getElem?_eq_some_iff.1 HI5.out.rb).1
      have hnr : some w1.heap.size ≠ (Value.slice po pre.length co).ownBlock := fun e => by
        obtain ⟨cur, h⟩ := own_type HI5.out.own _ e.symm
        rw [HI5.out.rb] at h; cases h
      have HNR := hid hnr
      clear hr hP hor hb5 hrq hnr y0
      gi_wp2_with ((with_reducible show wpListIn _ _ _ _ _ (⟨some 29, _, _, _, _, _⟩ :: _) _ _); go_loud (refine wpListIn_app EOut2 rfl _ _ rfl (w.heap.size + 4) _ _ _ rfl (HI5.out.own.alloc _) _ 1 1 [.slice q r.length d] rfl rfl (by simp) (row_newAt _ _ _ _ (by simp)) (by simp [Value.oneCell']) (by unfold maxLen; omega) (by omega) (by simp; omega) ?_); intro v7 w7 ho7 hg7 hs7; have HO7 := hid ho7; have HG7 := hid hg7; have HS7 := hid hs7; have hbx := (hg7.block _ (by simp; omega) HNR.out).trans ((Below.heap_alloc _ _ _ hw15).trans HI5.out.rb); have HBX := hid hbx; have d3 := cell_of_row _ _ 0 _ _ _ hbx; have f3 : w7.frozen? ⟨w1.heap.size, 0, none⟩ = false := frozen_of_row _ _ _ _ _ hbx; simp only [List.getElem?_toArray, List.getElem?_cons_zero] at d3; obtain ⟨p7, c7, rfl, -⟩ := own_shape ho7; clear ho7 hg7 hs7 hbx)
      have hgr : ∀ k, (Value.slice po pre.length co).ownBlock = some k → w.heap.size + 4 ≤ k ∧ ∃ cur, (w5.alloc (.cells #[.slice q r.length d] 25)).heap[k]? = some (.cells cur 25 (0, 0)) := fun k e => ⟨own_ge HI5.out.own k e, own_type (HI5.out.own.alloc _) k e⟩
      refine ⟨(keeps_below HB5.out).trans ((((KeepsOthers.alloc w5 _).trans (KeepsOthers.of_grownBy HG7.out (fun j o e h => by obtain ⟨cur, h2⟩ := (hgr j e).2; rw [h] at h2; cases h2; rfl))).trans (KeepsOthers.setCell w7 _ _)).from _), ?_, ⟨_, _, _, HI.out.push hw14 HB5.out HOR.out HOK.out HG7.out HS7.out HO7.out⟩⟩
      refine ((kpt_below (by omega) HB5.out).trans (KpT.alloc w5 (by omega) _)).trans ((KpT.grown HG7.out (by simp; omega) (fun k e => ⟨by have := (hgr k e).1; omega, fun cs T fz hS h => by obtain ⟨cur, h2⟩ := (hgr k e).2; rw [h] at h2; cases h2; cases hS⟩)).trans (KpT.grown (grownBy_setCell' w7 _ _) (by have := HG7.out.size; simp at this; omega) (fun k e => ?_)))
      cases e
      exact ⟨by omega, fun cs T fz hS h => by rw [HBX.out] at h; cases h; cases hS⟩
    · have HNL := hid (row_none HO.out hP hr)
      have HI5 := hid (HI.out.belowI hb5)
      have HX := hid (FdX.of HI5.out HNL.out)
      have HKF : Hid (KeepsFrom w3.heap.size W1 w5) := keeps_below hb5
      have x1 := cell_of_row _ _ 0 _ _ _ HI5.out.r1
      have x2 := cell_of_row _ _ 0 _ _ _ HI5.out.r2
      have x3 := cell_of_row _ _ 0 _ _ _ HI5.out.r3
      have f1 : w5.frozen? ⟨w.heap.size + 1, 0, none⟩ = false := frozen_of_row _ _ _ _ _ HI5.out.r1
      have f2 : w5.frozen? ⟨w.heap.size + 2, 0, none⟩ = false := frozen_of_row _ _ _ _ _ HI5.out.r2
      have f3 : w5.frozen? ⟨w.heap.size + 3, 0, none⟩ = false := frozen_of_row _ _ _ _ _ HI5.out.r3
      simp only [List.getElem?_toArray, List.getElem?_cons_zero] at x1 x2 x3
      clear hr hP hb5 y0
      gi_wp2
      exact ⟨HKF.out.trans ((((KeepsOthers.setCell w5 _ _).trans (KeepsOthers.setCell _ _ _)).trans (KeepsOthers.setCell _ _ _)).from _), rfl, HX.out.set⟩
  case done =>
    rintro xs W1 rfl ⟨vo, vals, rows, hI⟩ hD
    have HI := hid hI
    have hkl := keysF_len l
    obtain ⟨b1, b2, b3, b4⟩ := find_fin HO.out HM.out (rows := rows) hI.len hI.ok
    have hrl : rows.length = (keysF l).length := hI.len
    have hwW : w.heap.size + 4 ≤ W1.heap.size := by have h1 := (Array.getElem?_eq_some_iff.1 hI.r3).1; omega
    obtain ⟨po, co, rfl, -⟩ := own_shape hI.own
    have HMG := hid (merge_any l p c (w.heap.size + 4) _ vals rows W1 hl (by omega) (by omega) hwW (fun w' hb => HR.out.below (hI.below.trans (hb.mono (by omega)))) (own_cast hI.own hrl.symm rfl) hI.ins b1 b2 HO.out.at HM.out)
    have HLG := hid b3
    unfold MergeTell at HMG
    generalize mergeN l rows.flatten.length rows = o at HMG HLG
    have y0 := cell_of_row _ _ 0 _ _ _ hI.box
    have y6 := cell_of_row _ _ 0 _ _ _ hI.rb
    simp only [List.getElem?_toArray, List.getElem?_cons_zero] at y0 y6
    have HD := hid hD
    have HRL := hid hrl
    have hdn : some w3.heap.size ≠ (Value.slice po (keysF l).length co).ownBlock := fun e => by
      obtain ⟨cur, h⟩ := own_type hI.own _ e.symm
      rw [hD] at h; cases h
    have HDN := hid hdn
    clear b1 b2 b3 b4 hrl hI hD hdn
    gi_wp2_with (gi_at_call 22; (with_reducible refine (callsIn_wide.2 HMG.out).mono ?_); rintro e w8 ⟨v8, rfl, ho8, hb8, hg8⟩; obtain ⟨p8, c8, rfl, -⟩ := own_shape ho8; have HO8 := hid ho8; have HB8 := hid hb8; have h1 := (hb8.block _ (by omega : w.heap.size + 1 < w.heap.size + 4)).trans HI.out.r1; have h2 := (hb8.block _ (by omega : w.heap.size + 2 < w.heap.size + 4)).trans HI.out.r2; have h3 := (hb8.block _ (by omega : w.heap.size + 3 < w.heap.size + 4)).trans HI.out.r3; have x1 := cell_of_row _ _ 0 _ _ _ h1; have x2 := cell_of_row _ _ 0 _ _ _ h2; have x3 := cell_of_row _ _ 0 _ _ _ h3; have f1 : w8.frozen? ⟨w.heap.size + 1, 0, none⟩ = false := frozen_of_row _ _ _ _ _ h1; have f2 : w8.frozen? ⟨w.heap.size + 2, 0, none⟩ = false := frozen_of_row _ _ _ _ _ h2; have f3 : w8.frozen? ⟨w.heap.size + 3, 0, none⟩ = false := frozen_of_row _ _ _ _ _ h3; simp only [List.getElem?_toArray, List.getElem?_cons_zero] at x1 x2 x3; have HD8 := hid ((hg8.block _ (Array.getElem?_eq_some_iff.1 HD.out).1 HDN.out).trans HD.out); have HH8 := hid (⟨h1, h2, h3⟩ : _ ∧ _ ∧ _); clear ho8 hb8 hg8 h1 h2 h3)
    have hfin := fd_set3 (u1 := .slice p8 o.length c8) (u2 := .bool true) (u3 := .int .i64 0) HH8.out.1 HH8.out.2.1 HH8.out.2.2
    have hDz : (((w8.setCell ⟨w.heap.size + 1, 0, none⟩ (.slice p8 o.length c8)).setCell ⟨w.heap.size + 2, 0, none⟩ (.bool true)).setCell ⟨w.heap.size + 3, 0, none⟩ (.int .i64 0)).heap[w3.heap.size]? = some (.deferred (some [])) := (Below.heap_setCell _ _ _ _ (by simp; omega)).trans ((Below.heap_setCell _ _ _ _ (by simp; omega)).trans ((Below.heap_setCell _ _ _ _ (by simp; omega)).trans HD8.out))
    refine ⟨by simp, .inl ⟨_, _, rfl, run_takeDeferred hDz, ?_⟩⟩
    obtain ⟨k1, k2, k3⟩ := fd_cells (d := w3.heap.size) (by omega) hfin (.deferred none)
    refine ⟨.tuple #[.slice p8 o.length c8, .bool true, .int .i64 0], by simp [results, Try.results10, go_sem, k1, k2, k3], ?_⟩
    unfold FindTell
    rw [HZ.out]
    refine ⟨_, o, true, rfl, by have := find_is HZ.out HLG.out; rwa [HZ.out] at this, ?_, ?_⟩
    · have h1 : OwnI (((w8.setCell ⟨w.heap.size + 1, 0, none⟩ (.slice p8 o.length c8)).setCell ⟨w.heap.size + 2, 0, none⟩ (.bool true)).setCell ⟨w.heap.size + 3, 0, none⟩ (.int .i64 0)) (w.heap.size + 4) (.slice p8 o.length c8) o :=
        own_setO (own_setO (own_setO HO8.out _ _ (fun g e => by have := own_ge HO8.out g e; simp; omega)) _ _ (fun g e => by have := own_ge HO8.out g e; simp; omega)) _ _ (fun g e => by have := own_ge HO8.out g e; simp; omega)
      exact own_lower (own_keptB h1 (grownBy_putObj' _ _ _) (fun r e => by cases e; exact ⟨_, hDz, rfl⟩)) (by omega)
    · exact ((((HI.out.below.trans (HB8.out.mono (by omega))).setCell (by simp) _).setCell (by simp <;> omega) _).setCell (by simp <;> omega) _).trans (belowK_b (w := w3) (by omega) _ _ _ _ (Nat.le_refl _) hDz rfl rfl)
  case stop =>
    rintro c pre W1 hpre ⟨rfl, hX⟩ hD
    gi_wp2
    refine ⟨by simp, .inl ⟨_, _, rfl, run_takeDeferred hD, ?_⟩⟩
    obtain ⟨k1, k2, k3⟩ := fd_cells (d := w3.heap.size) (by omega) ⟨hX.r1, hX.r2, hX.r3⟩ (.deferred none)
    refine ⟨.tuple #[.slice none 0 0, .bool false, .int .i64 0], by simp [results, Try.results10, go_sem, k1, k2, k3], ?_⟩
    unfold FindTell
    rw [HZ.out]
    refine ⟨_, [], false, rfl, by have := find_non hX.no; rwa [HZ.out] at this, own_nil0 _ _, ?_⟩
    exact hX.below.trans (belowK_b (w := w3) (by omega) _ _ _ _ (Nat.le_refl _) hD rfl rfl)
/-- Find, at any history. -/
theorem find_any (l : List Cl) (p : Option Addr) (c : Nat) (w : World) (hl : l.length ≤ 1000000) (hc : l.length ≤ c) (hp : p = none → c = 0) (hrow : Row w p (l.flatMap Cl.cells)) (hm : ∀ i, i < l.length → (cAt l i).to ≤ maxI) :
    Calls Try.prog 10 #[.slice p l.length c] w (FindTell l w) := by
  by_cases hz : chkL l = 0
  · exact find_ok l p c w hl hc hp hrow hm hz
  · exact find_bad l p c w hl hc hrow hz
end Go.Proofs.Ytdkknnmgdghioaa
namespace Go.Proofs.Ytdkknnmgdghioaa
open Go.RowKit

def ka : ByteArray := ⟨#[97]⟩
def liveL : List Cl := [⟨0, 1, ka, 1, 0, 5, 0, 0⟩, ⟨1, 2, ka, 0, 1, 2, 0, 4⟩, ⟨1, 2, ka, 0, 3, 4, 1, 0⟩]
theorem live_one : ∀ c ∈ liveL, OneC c := by
  intro c hc
  simp only [liveL, List.mem_cons, List.not_mem_nil, or_false] at hc
  rcases hc with rfl | rfl | rfl <;> (refine ⟨?_, ?_, ?_, ?_, ?_, ?_, ?_, ?_⟩ <;> dsimp only <;> omega)
theorem live_hist : HistOk liveL := by
  refine ⟨live_one, ?_⟩
  unfold Pairs liveL
  refine List.pairwise_cons.2 ⟨?_, List.pairwise_cons.2 ⟨?_, List.pairwise_cons.2 ⟨by simp, List.Pairwise.nil⟩⟩⟩
  · intro b hb e
    simp only [List.mem_cons, List.not_mem_nil, or_false] at hb
    rcases hb with rfl | rfl <;> (dsimp only at e; omega)
  · intro b hb e
    simp only [List.mem_cons, List.not_mem_nil, or_false] at hb
    subst hb
    exact .inl rfl
theorem live_chk : chkL liveL = 0 := chk_is (by decide) live_hist
theorem live_legal : Legal liveL [1, 0, 2] := by
  refine ⟨by decide, by decide, fun i hi _ => ?_, ?_, ?_⟩
  · have hi : i < 3 := hi
    have : i = 0 ∨ i = 1 ∨ i = 2 := by omega
    rcases this with rfl | rfl | rfl <;> decide
  · unfold RT
    decide
  · rw [← stp_steps]; decide
def triB : Bool := (List.range 3).all fun a => (List.range 3).all fun b => (List.range 3).all fun c => !stpR [] ([a, b, c].map (cAt liveL)) || (a == b || a == c || b == c) || (a == 1 && b == 0 && c == 2)
theorem live_triB : triB = true := by decide
theorem live_tri {a b c : Nat} (ha : a < 3) (hb : b < 3) (hc : c < 3) (h : stpR [] ([a, b, c].map (cAt liveL)) = true) (hn : [a, b, c].Nodup) : [a, b, c] = [1, 0, 2] := by
  have h1 := List.all_eq_true.1 (List.all_eq_true.1 (List.all_eq_true.1 live_triB a (List.mem_range.2 ha)) b (List.mem_range.2 hb)) c (List.mem_range.2 hc)
  rw [h] at h1
  simp only [Bool.not_true, Bool.false_or, Bool.or_eq_true, Bool.and_eq_true, beq_iff_eq] at h1
  simp only [List.nodup_cons, List.mem_cons, List.not_mem_nil, or_false, not_or] at hn
  rcases h1 with ((e | e) | e) | ⟨⟨e1, e2⟩, e3⟩
  · exact absurd e hn.1.1
  · exact absurd e hn.1.2
  · exact absurd e hn.2.1
  · rw [e1, e2, e3]
theorem live_only {o : List Nat} (h : Legal liveL o) : o = [1, 0, 2] := by
  have h0 : 0 ∈ o := h.all 0 (by decide) (by decide)
  have h1 : 1 ∈ o := h.all 1 (by decide) (by decide)
  have h2 : 2 ∈ o := h.all 2 (by decide) (by decide)
  have hl : o.length ≤ 3 := nodup_len 3 o h.nd (fun i hi => h.lt i hi)
  have hst := h.st
  rw [← stp_steps] at hst
  match o, hl with
  | [], _ => cases h0
  | [a], _ => simp at h0 h1; exact absurd (h0.trans h1.symm) (by decide)
  | [a, b], _ => simp only [List.mem_cons, List.not_mem_nil, or_false] at h0 h1 h2; omega
  | [a, b, c], _ => exact live_tri (h.lt a (by simp)) (h.lt b (by simp)) (h.lt c (by simp)) hst h.nd
  | _ :: _ :: _ :: _ :: _, hl => simp at hl
theorem live_find {o : List Nat} {is : Bool} (h : FindIs liveL o is (chkL liveL)) : is = true ∧ o = [1, 0, 2] := by
  have h1 : is = true := (h.lin live_chk).2 ⟨_, live_legal⟩
  exact ⟨h1, live_only (h.leg h1)⟩
theorem live_max : ∀ i, i < liveL.length → (cAt liveL i).to ≤ maxI := fun i hi => by
  have hi : i < 3 := hi
  have : i = 0 ∨ i = 1 ∨ i = 2 := by omega
  rcases this with rfl | rfl | rfl <;> decide
set_option maxRecDepth 20000 in
set_option maxHeartbeats 4000000 in
theorem live_any (w : World) : Calls Try.prog 8 #[] w fun e w' => e = .returned (.bool true) ∧ Below w.heap.size w w' := by
  have HF : Hid (Calls Try.prog 10 #[.slice (some ⟨w.heap.size, 0, none⟩) 3 3] (w.alloc (.cells #[.int .i64 0, .int .i64 1, .string { data := #[97] }, .int .i64 1, .int .i64 0, .int .i64 5, .int .i64 0, .int .i64 0, .int .i64 1, .int .i64 2, .string { data := #[97] }, .int .i64 0, .int .i64 1, .int .i64 2, .int .i64 0, .int .i64 4, .int .i64 1, .int .i64 2, .string { data := #[97] }, .int .i64 0, .int .i64 3, .int .i64 4, .int .i64 1, .int .i64 0] 38)) fun e w' =>
      ∃ g c, e = .returned (.tuple #[.slice (some ⟨g, 0, none⟩) 3 c, .bool true, .int .i64 0]) ∧ Row w' (some ⟨g, 0, none⟩) [.int .i64 1, .int .i64 0, .int .i64 2] ∧ Below (w.heap.size + 1) (w.alloc (.cells (liveL.flatMap Cl.cells).toArray 38)) w') := by
    refine (find_any liveL (some ⟨w.heap.size, 0, none⟩) 3 (w.alloc (.cells (liveL.flatMap Cl.cells).toArray 38)) (by decide) (by decide) (by simp) (row_new w _ _) live_max).mono ?_
    rintro e w' ⟨v, o, is, rfl, hf, ho, hb⟩
    obtain ⟨rfl, rfl⟩ := live_find hf
    obtain ⟨g, c, rfl, -, -, -⟩ := own_block ho (by decide)
    rw [live_chk]
    rw [World.size_alloc] at hb
    exact ⟨g, c, rfl, own_slice_row ho, hb⟩
  go_enter Try.func8, Try.ntmps8
  go_wp2_with (go_at_call 10; (with_reducible refine HF.out.mono ?_); rintro e w1 ⟨g, c, rfl, hr, hb1⟩; have HR := hid hr; have HB1 := hid hb1; have hz1 := hb1.size; clear hr hb1)
  have three : ∀ (W : World) (b : Nat), Row W (some ⟨b, 0, none⟩) [.int .i64 1, .int .i64 0, .int .i64 2] → ∀ j, j < ([1, 0, 2] : List Int).length → W.cell? ⟨b, 0 + j, none⟩ = some (.int .i64 (([1, 0, 2] : List Int).getD j 0)) := fun W b h j hj => by
    rw [h.cell j hj]
    match j, hj with
    | 0, _ => rfl
    | 1, _ => rfl
    | 2, _ => rfl
  refine (Try.slices_Equal_int g 0 3 c w1.heap.size 0 3 3 [1, 0, 2] [1, 0, 2] _ (by decide) (by decide) (by decide) (by decide) (three _ _ (HR.out.alloc _)) (three _ _ (row_new w1 [.int .i64 1, .int .i64 0, .int .i64 2] 3))).mono ?_
  rintro e w2 ⟨rfl, q, rfl⟩
  clear three
  go_wp2
  go_ret
  refine ⟨rfl, ?_⟩
  have hb := HB1.out
  refine belowN ?_ _
  rw [World.size_alloc] at hz1
  exact (((Below.refl _ w).alloc (Nat.le_refl _) _).trans (hb.mono (by omega))).alloc (by omega) _
end Go.Proofs.Ytdkknnmgdghioaa
namespace Go.Proofs.Ytdkknnmgdghioaa
open Go.RowKit

def FewTell (l : List Cl) (w : World) (e : Ending) (w' : World) : Prop := ∃ b : Bool, e = .returned (.bool b) ∧ (b = true → l.length ≤ 120) ∧ Below w.heap.size w w'
theorem few_tell {l : List Cl} {w w' : World} {b : Bool} (h : b = true → l.length ≤ 120) (hb : Below w.heap.size w w') : FewTell l w (.returned (.bool b)) w' := ⟨b, rfl, h, hb⟩
set_option maxRecDepth 20000 in
set_option maxHeartbeats 4000000 in
theorem few_any (l : List Cl) (p : Option Addr) (c : Nat) (w : World) (hl : l.length ≤ 1954687338211) (hc : l.length ≤ c) (hks : ∀ x ∈ l, x.key.size ≤ 140737488351232) (hrow : Row w p (l.flatMap Cl.cells)) :
    Calls Try.prog 9 #[.slice p l.length c] w (FewTell l w) := by
  have HR := hid hrow
  have HKS := hid hks
  obtain ⟨mm, hmm⟩ : ∃ mm : Nat, mm = min l.length 120 := ⟨_, rfl⟩
  have hmx : min (l.length : Int) 120 = (mm : Int) := by omega
  have hmc : (mm : Int) ≤ (c : Int) := by omega
  have hmc2 : mm ≤ c := by omega
  have hml : mm ≤ l.length := by omega
  have hm120 : mm ≤ 120 := by omega
  have HMX := hid hmm
  clear hrow hks hmm
  go_enter Try.func9, Try.ntmps9
  go_wp2
  clear hmx
  go_loopw [11] (fun i wr => ∃ k : Nat, k ≤ mm ∧ i = .int .i64 k ∧ Below w.heap.size w wr) (fun i _ => mm - (intOf i).toNat)
  case atStart => exact ⟨0, Nat.zero_le _, rfl, Below.refl _ _⟩
  case round =>
    obtain ⟨i, hi, rfl, hb⟩ := hrel
    have HB := hid hb
    clear hb
    by_cases hlt : i < mm
    · have hil : i < l.length := by omega
      obtain ⟨bl, ol, rfl, hbl, -⟩ := (HR.out.below HB.out).at (by have := flat_len Cl.cells 8 (fun _ => rfl) l; omega)
      obtain ⟨d0, d1, d2, d3, d4, d5, d6, d7⟩ := cl_cat (HR.out.below HB.out) i hil
      have HK := hid (HKS.out _ (cAt_mem i hil))
      have HBA := hid (fun o : Obj => HB.out.alloc HB.out.size o)
      generalize (cAt l i).key = key at d2 HK
      have hks : key.size ≤ 140737488351232 := HK.out
      by_cases hlong : 300 < key.size
      · have h1 : (300 : Int) < (key.size : Int) := by omega
        go_wp2
        go_ret
        exact few_tell (b := false) (fun e => by cases e) (HBA.out _)
      · have h1 : ¬ (300 : Int) < (key.size : Int) := by omega
        go_wp2
        exact ⟨⟨i + 1, by omega, by go_num, HBA.out _⟩, by simp [intOf]; omega⟩
    · have hie : i = mm := by omega
      subst hie
      by_cases h120 : l.length ≤ 120
      · have h1 : (l.length : Int) ≤ 120 := by omega
        go_wp2
        go_ret
        exact few_tell (b := true) (fun _ => h120) HB.out
      · have h1 : ¬ (l.length : Int) ≤ 120 := by omega
        go_wp2
        go_ret
        exact few_tell (b := false) (fun e => by cases e) HB.out
end Go.Proofs.Ytdkknnmgdghioaa
namespace Go.Proofs.Ytdkknnmgdghioaa
open Go.RowKit

set_option maxHeartbeats 8000000 in
theorem rone_any (a : Cl) (w : World) : Calls Try.prog 23 #[.agg a.cells.toArray] w fun e w' => e = .returned (.bool (oneB a)) ∧ Below w.heap.size w w' := by
  obtain ⟨aw, ak, ay, av, af, at_, aa, ae⟩ := a
  show Calls Try.prog 23 #[.agg #[.int .i64 aw, .int .i64 ak, .string ay, .int .i64 av, .int .i64 af, .int .i64 at_, .int .i64 aa, .int .i64 ae]] w _
  have HY := fun h => hid (@one_yes ⟨aw, ak, ay, av, af, at_, aa, ae⟩ h)
  have HN := fun h => hid (@one_no ⟨aw, ak, ay, av, af, at_, aa, ae⟩ h)
  generalize oneB ⟨aw, ak, ay, av, af, at_, aa, ae⟩ = r at HY HN
  go_enter Try.func23, Try.ntmps23
  go_wp2
  all_goals (go_ret; refine ⟨ret_bool (by_val (fun hx => ?_) (fun hx => ?_)), (Below.refl _ _).alloc (Nat.le_refl _) _⟩)
  all_goals (try simp only [beq_iff_eq, beq_eq_false_iff_ne, bne_iff_ne, bne_eq_false_iff_eq, ne_eq, decide_eq_true_eq, decide_eq_false_iff_not, Bool.or_eq_false_iff, Bool.or_eq_true, Bool.and_eq_true, Bool.and_eq_false_iff] at *)
  all_goals first
    | (exfalso; revert hx; decide)
    | (refine (HN ?_).out; rintro ⟨h1, h2, h3, h4, h5, h6, h7, h8⟩; dsimp only at h1 h2 h3 h4 h5 h6 h7 h8; omega)
    | (refine (HY ⟨?_, ?_, ?_, ?_, ?_, ?_, ?_, ?_⟩).out <;> dsimp only <;> omega)
    | (refine (HY ⟨?_, ?_, ?_, ?_, ?_, ?_, ?_, ?_⟩).out <;> dsimp only <;> simp_all <;> omega)
end Go.Proofs.Ytdkknnmgdghioaa
