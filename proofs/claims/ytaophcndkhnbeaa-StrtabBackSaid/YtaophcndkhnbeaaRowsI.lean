/-
  The law's rows: what Names goes through, as a row of rows.
-/
import Derived.Test.YtaophcndkhnbeaaNamesI
namespace Go.Proofs.Ytaophcndkhnbeaa
open Go.RowKit
attribute [local go_sem] Oper.semAt_some
attribute [local go_sem] wide_fn wide_depth

def rowCells (rs : List (Nat × ByteArray)) : List Value := rs.flatMap (fun r => [.int .i64 r.1, .string r.2])
theorem rowCells_len (rs : List (Nat × ByteArray)) : (rowCells rs).length = 2 * rs.length := by
  induction rs with
  | nil => rfl
  | cons r l ih => simp only [rowCells, List.flatMap_cons] at ih ⊢; rw [List.length_append, ih]; simp; omega
theorem rowCells_snoc (rs : List (Nat × ByteArray)) (r : Nat × ByteArray) : rowCells (rs ++ [r]) = rowCells rs ++ [.int .i64 r.1, .string r.2] := by simp [rowCells]
theorem pieces_len (l : List UInt8) : ∀ (a : Nat) (cur : List UInt8), (pieces l a cur).length ≤ l.length := by
  induction l with
  | nil => intro a cur; simp [pieces]
  | cons b r ih =>
    intro a cur
    unfold pieces
    split
    · simp; exact ih _ _
    · exact Nat.le_trans (ih _ _) (by simp)
theorem rowsP_len (tab : List UInt8) : (rowsP tab).length ≤ tab.length := Nat.le_trans (pieces_len _ _ _) (by simp)
theorem namesC_len (tab : List UInt8) : (namesC tab).length ≤ tab.length := by
  unfold namesC
  split
  · exact rowsP_len tab
  · simp

theorem E41 : Elem Try.prog 41 43 2 24 (.agg #[.int .i64 0, .string .empty]) := Elem.mk' Try.underlying41 (by kernel_rfl) rfl (by decide)

theorem own_keptB {W W' : World} {row : Option Nat} {base : Nat} {e : TypeId} {size : Nat} {v : Value} {k : Nat} {xs : List Value} (h : W.ownsRow base e size v k xs) (hg : W.grownBy W' row)
    (hrow : ∀ r, row = some r → ∃ o : Obj, W.heap[r]? = some o ∧ o.isCells = false) : W'.ownsRow base e size v k xs := by
  refine h.kept hg ?_
  rcases h.2 with ⟨rfl, _⟩ | ⟨g, cap, cur, rfl, _, hgb, _⟩
  · exact .inl rfl
  · refine .inr fun e' => ?_
    obtain ⟨o, ho, hw⟩ := hrow g (by simpa [Value.ownBlock] using e'.symm)
    rw [hgb] at ho; cases ho; cases hw
theorem own_type {W : World} {base : Nat} {e : TypeId} {size : Nat} {v : Value} {k : Nat} {xs : List Value} (h : W.ownsRow base e size v k xs) (g : Nat) (hg : v.ownBlock = some g) : ∃ cur, W.heap[g]? = some (.cells cur e (0, 0)) := by
  rcases h.2 with ⟨rfl, _⟩ | ⟨g', cap, cur, rfl, _, hgb, _⟩
  · cases hg
  · cases hg; exact ⟨cur, hgb⟩

structure RowsI (w : World) (pre : List (Nat × ByteArray)) (v : Value) (W : World) : Prop where
  box : W.heap[w.heap.size + 1]? = some (.cells #[v] 41 (0, 0))
  own : W.ownsRow w.heap.size 43 2 v pre.length (rowCells pre)
  below : Below w.heap.size w W
theorem RowsI.kept {w W W' : World} {pre : List (Nat × ByteArray)} {v : Value} {B : Nat} (h : RowsI w pre v W) (hB : w.heap.size + 1 < B) {row : Option Nat} (hg : W.grownBy W' row) (hr : ∀ r, row = some r → B ≤ r ∧ ∃ o : Obj, W.heap[r]? = some o ∧ o.isCells = false) : RowsI w pre v W' :=
  ⟨heap_keptP hg (fun e => by have := (hr _ e.symm).1; omega) h.box, own_keptB h.own hg (fun r e => (hr r e).2), h.below.grown hg h.below.size (fun k e => by have := (hr k e).1; omega)⟩

set_option maxHeartbeats 1000000 in
theorem rows_any (q : Option Addr) (c : Nat) (tab : List UInt8) (w : World) (hqc : tab.length ≤ c) (hm : tab.length ≤ 1048576) (hrow : Row w q (u8s tab)) :
    Calls Try.prog 23 #[.slice q tab.length c] w fun e w' => ∃ v, e = .returned v ∧ w'.ownsRow w.heap.size 43 2 v (namesC tab).length (rowCells (namesC tab)) ∧ Below w.heap.size w w' := by
  have hnf : ∀ (w : World) (a : Addr), (binOp .eql 55 (.func (.func 37) #[] #[.pointer (some a)]) .nilFunc).run Try.prog w = .ok (.bool false) w := fun w a => by kernel_rfl
  have hlen := namesC_len tab
  have hq : tab ≠ [] → ∀ a, q = some a → a.block < w.heap.size := fun hne a ha => by
    obtain ⟨b, o, hpe, hbw, _⟩ := hrow.at (by cases tab with | nil => exact absurd rfl hne | cons => simp [u8s])
    rw [ha] at hpe; cases hpe; exact hbw
  refine callsIn_wide.1 (?_ : CallsIn Fence.wide 8 Try.prog 23 #[.slice q tab.length c] w _)
  refine callsIn_of_wp_marks Try.func23 rfl (show Fence.wide.fn 23 from trivial) ?_ rfl
  simp only [Try.ntmps23, List.size_toArray, List.length_cons, List.length_nil, Nat.reduceAdd, Nat.reduceSub, Array.replicate_succ, Array.replicate_zero, List.push_toArray, List.append_toArray, List.nil_append, List.cons_append]
  gi_wp2_with (gi_at_call 32; refine (callsIn_wide.2 (Names_any _ _ _ _)).mono ?_; rintro e w2 ⟨rfl, rfl⟩)
  obtain ⟨W0, hW0⟩ : ∃ W0, (w.alloc (.cells #[.slice q tab.length c] 25)).alloc (.cells #[.slice none 0 0] 41) = W0 := ⟨_, rfl⟩
  rw [hW0]
  have hs0 : W0.heap.size = w.heap.size + 2 := by rw [← hW0]; simp
  have hb0 : Below w.heap.size w W0 := by rw [← hW0]; exact ((Below.refl _ _).alloc (Nat.le_refl _) _).alloc (by simp) _
  have hbx0 : W0.heap[w.heap.size]? = some (.cells #[.slice q tab.length c] 25 (0, 0)) := by rw [← hW0]; exact (Below.heap_alloc _ _ _ (by simp)).trans (heap_alloc_new w _)
  have hT0 : RowsI w [] (.slice none 0 0) W0 := by
    refine ⟨?_, World.ownsRow_nil _ _ _ _, hb0⟩
    have hn := heap_alloc_new (w.alloc (.cells #[.slice q tab.length c] 25)) (.cells #[.slice none 0 0] 41)
    rw [hW0, World.size_alloc] at hn
    exact hn
  have hseq := Names1_seq 7 (by omega) tab hm w.heap.size (fun T => T == 25 || T == 59) rfl rfl w.heap.size q c hqc W0 hbx0 (by omega) (hrow.below hb0) hq
  clear hW0 hb0 hbx0
  refine wpIn_rangeFunc_O rfl (by omega) (gf := 37) (lb := #[.pointer (some ⟨w.heap.size, 0, none⟩)]) rfl trivial (enters_of Try.func37 (by kernel_rfl) rfl) hseq
    KpT.trans (fun W l o o' hl h1 h2 h3 => KpT.putObj (by omega) W l o o' hl h1 h2 h3) (Below.refl _ _) (fun _ => rfl)
    (fun pre W' => ∃ v, RowsI w pre v W') (fun c pre W' => False)
    (fun s A B row hs hg hr => by obtain ⟨v, h⟩ := hs; exact ⟨v, h.kept (by omega) hg hr⟩)
    (fun c s A B row hs hg hr => hs)
    ⟨_, hT0⟩
    ?act ?assign ?body ?done ?stop
  case assign =>
    intro l x W K hK
    simp only [encR]
    gi_wp2
    exact hK
  case body =>
    rintro l' pre x W1 ⟨v, hT⟩ hlen2
    have d1 := cell_of_row W1 _ 0 _ _ _ hT.box
    have f1 := frozen_of_row W1 _ 0 _ _ hT.box
    simp at d1
    have ho := hT.own
    obtain ⟨vp, vc, rfl, hvc, hvm, hvr, hvn, hvg⟩ := own_row ho
    have hlb : w.heap.size + 1 < W1.heap.size := (Array.getElem?_eq_some_iff.1 hT.box).1
    have hne1 : some (w.heap.size + 1) ≠ (Value.slice vp pre.length vc).ownBlock := fun e => by
      obtain ⟨cur, h⟩ := own_type ho _ e.symm
      rw [hT.box] at h; cases h
    have HT := hid hT
    clear hT
    gi_wp2_with ((with_reducible show wpListIn _ _ _ _ _ (⟨some 19, _, _, _, _, _⟩ :: _) _ _); go_loud (refine wpListIn_app E41 rfl _ _ rfl w.heap.size _ _ _ rfl (ho.alloc _) _ 1 1 [.int .i64 x.1, .string x.2] rfl rfl (by simp) (row_new _ _ _) (by simp [Value.oneCell']) (by unfold maxLen; omega) (by omega) (by have := HT.out.below.size; simp; omega) ?_); intro v2 w2 ho2 hg2 hs2; have hbx2 := (hg2.block (w.heap.size + 1) (by simp; omega) hne1).trans ((Below.heap_alloc _ _ _ hlb).trans HT.out.box); have d3 := cell_of_row w2 _ 0 _ _ _ hbx2; have f3 := frozen_of_row w2 _ 0 _ _ hbx2; simp at d3; have HO2 := hid ho2; obtain ⟨vp2, vc2, rfl, _⟩ := own_row ho2)
    have ho2 := HO2.out
    have hWs := HT.out.below.size
    have hs2z := hg2.size
    simp only [World.size_alloc] at hs2z
    have hgr : ∀ k, (Value.slice vp pre.length vc).ownBlock = some k → w.heap.size ≤ k ∧ ∃ cur, (W1.alloc (.cells #[.int .i64 x.1, .string x.2] 43)).heap[k]? = some (.cells cur 43 (0, 0)) := fun k e => ⟨own_ge HT.out.own k e, own_type (ho.alloc _) k e⟩
    have hb2 : Boxed w2 (w.heap.size + 1) 41 (.slice vp pre.length vc) := hbx2
    refine ⟨?_, ?_, _, (hb2.set _ : _), ?_, ?_⟩
    · exact (((KeepsOthers.alloc W1 _).trans (KeepsOthers.of_grownBy hg2 (fun j o e h => by obtain ⟨cur, h2⟩ := (hgr j e).2; rw [h] at h2; cases h2; rfl))).trans (KeepsOthers.setCell w2 _ _)).from _
    · refine ((KpT.alloc W1 (by omega) _).trans (KpT.grown hg2 (by simp; omega) (fun k e => ⟨(hgr k e).1, fun cs T fz hS h => by obtain ⟨cur, h2⟩ := (hgr k e).2; rw [h] at h2; cases h2; cases hS⟩))).trans (KpT.grown (grownBy_setCell' w2 _ _) (by omega) (fun k e => ?_))
      cases e
      exact ⟨by omega, fun cs T fz hS h => by rw [hbx2] at h; cases h; cases hS⟩
    · have := own_setO ho2 ⟨w.heap.size + 1, 0, none⟩ (.slice vp2 (pre.length + 1) vc2) (fun g hg e => by obtain ⟨cur, h⟩ := own_type ho2 g hg; subst e; rw [hbx2] at h; cases h)
      rw [rowCells_snoc, List.length_append]
      exact this
    · exact ((HT.out.below.alloc (by omega) _).grown hg2 (by simp; omega) (fun k e => (hgr k e).1)).setCell (p := ⟨w.heap.size + 1, 0, none⟩) (by simp) _
  case done =>
    rintro xs W1 rfl ⟨v, hT⟩ hD
    have d1 := cell_of_row W1 _ 0 _ _ _ hT.box
    simp at d1
    gi_wp2
    refine ⟨by simp, .inl ⟨_, _, rfl, run_takeDeferred hD, ?_⟩⟩
    have hT2 := hT.kept (B := W0.heap.size) (by omega) (grownBy_putObj' W1 W0.heap.size (.deferred none)) (fun r e => by cases e; exact ⟨Nat.le_refl _, _, hD, rfl⟩)
    exact ⟨_, results_tmp rfl _ _ _, v, rfl, hT2.own, hT2.below⟩
  case stop =>
    rintro c pre W1 hpre h
    exact h.elim
end Go.Proofs.Ytaophcndkhnbeaa
