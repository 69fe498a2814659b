/-
  strtab.Find: it reckons 'findC'.
-/
import Derived.Test.YtaophcndkhnbeaaChkI
namespace Go.Proofs.Ytaophcndkhnbeaa
open Go.RowKit
attribute [local go_sem] Oper.semAt_some
attribute [local go_sem] wide_fn wide_depth

def findC (tab : List UInt8) (name : ByteArray) : Int × Bool :=
  if chkC tab ≠ 0 then (0, false) else if name = ByteArray.empty then (0, true) else match findRow (rowsP tab) name with | some v => (v, true) | none => (0, false)

structure FindB (w : World) (name : ByteArray) (v : Int) (is : Bool) (W : World) : Prop where
  box : W.heap[w.heap.size]? = some (.cells #[.string name] 9 (0, 0))
  r1 : W.heap[w.heap.size + 1]? = some (.cells #[.int .i64 v] 3 (0, 0))
  r2 : W.heap[w.heap.size + 2]? = some (.cells #[.bool is] 4 (0, 0))
  below : Below w.heap.size w W
theorem FindB.kept {w W W' : World} {name : ByteArray} {v : Int} {is : Bool} {B : Nat} (h : FindB w name v is W) (hB : w.heap.size + 2 < B) {row : Option Nat} (hg : W.grownBy W' row) (hr : ∀ r, row = some r → B ≤ r) : FindB w name v is W' :=
  ⟨heap_keptP hg (fun e => by have := hr _ e.symm; omega) h.box, heap_keptP hg (fun e => by have := hr _ e.symm; omega) h.r1, heap_keptP hg (fun e => by have := hr _ e.symm; omega) h.r2, h.below.grown hg h.below.size (fun k e => by have := hr k e; omega)⟩
theorem FindB.after {w W W' : World} {name : ByteArray} {v : Int} {is : Bool} {B : Nat} (h : FindB w name v is W) (hB : w.heap.size + 2 < B) (hb : Below B W W') : FindB w name v is W' :=
  ⟨(hb.block _ (by omega)).trans h.box, (hb.block _ (by omega)).trans h.r1, (hb.block _ (by omega)).trans h.r2, h.below.trans (hb.mono (by omega))⟩

theorem FindB.done {w W : World} {name : ByteArray} {v : Int} {is : Bool} (h : FindB w name v is W) (v' : Int) (is' : Bool) : FindB w name v' is' ((W.setCell ⟨w.heap.size + 1, 0, none⟩ (.int .i64 v')).setCell ⟨w.heap.size + 1 + 1, 0, none⟩ (.bool is')) := by
  have h1 : Boxed W (w.heap.size + 1) 3 (.int .i64 v) := h.r1
  have h2 : Boxed (W.setCell ⟨w.heap.size + 1, 0, none⟩ (.int .i64 v')) (w.heap.size + 2) 4 (.bool is) := (Below.heap_setCell _ _ _ _ (by simp)).trans h.r2
  exact ⟨(Below.heap_setCell _ _ _ _ (by simp; omega)).trans ((Below.heap_setCell _ _ _ _ (by simp)).trans h.box), (Below.heap_setCell _ _ _ _ (by simp)).trans (h1.set _ : _), (h2.set _ : _), (h.below.setCell (p := ⟨w.heap.size + 1, 0, none⟩) (by simp) _).setCell (p := ⟨w.heap.size + 1 + 1, 0, none⟩) (by simp; omega) _⟩

theorem findRow_pre (pre : List (Nat × ByteArray)) (x : Nat × ByteArray) (suf : List (Nat × ByteArray)) (name : ByteArray) (h : ∀ r ∈ pre, r.2 ≠ name) (hx : x.2 = name) : findRow (pre ++ x :: suf) name = some (x.1 : Int) := by
  have : pre.find? (fun r => decide (r.2 = name)) = none := by
    rw [List.find?_eq_none]; intro r hr; simpa using h r hr
  simp [findRow, List.find?_append, this, hx]

set_option maxHeartbeats 1000000 in
theorem find_any (p : Option Addr) (c : Nat) (tab : List UInt8) (name : ByteArray) (w : World) (hc : tab.length ≤ c) (hm : tab.length ≤ 1048576) (hrow : Row w p (u8s tab)) :
    Calls Try.prog 18 #[.slice p tab.length c, .string name] w fun e w' => e = .returned (.tuple #[.int .i64 (findC tab name).1, .bool (findC tab name).2]) ∧ Below w.heap.size w w' := by
  obtain ⟨W0, hW0⟩ : ∃ W0, ((w.alloc (.cells #[.string name] 9)).alloc (.cells #[.int .i64 0] 3)).alloc (.cells #[.bool false] 4) = W0 := ⟨_, rfl⟩
  have hs0 : W0.heap.size = w.heap.size + 3 := by rw [← hW0]; simp
  have hb0 : Below w.heap.size w W0 := by rw [← hW0]; exact (((Below.refl _ _).alloc (Nat.le_refl _) _).alloc (by simp) _).alloc (by simp; omega) _
  have hF0 : FindB w name 0 false W0 := by
    refine ⟨?_, ?_, ?_, hb0⟩
    · rw [← hW0]; exact (Below.heap_alloc _ _ _ (by simp; omega)).trans ((Below.heap_alloc _ _ _ (by simp)).trans (heap_alloc_new w _))
    · have hn := heap_alloc_new (w.alloc (.cells #[.string name] 9)) (.cells #[.int .i64 0] 3)
      rw [World.size_alloc] at hn
      rw [← hW0]; exact (Below.heap_alloc _ _ _ (by simp)).trans hn
    · have hn := heap_alloc_new ((w.alloc (.cells #[.string name] 9)).alloc (.cells #[.int .i64 0] 3)) (.cells #[.bool false] 4)
      rw [World.size_alloc, World.size_alloc] at hn
      rw [← hW0]; exact hn
  have HC := hid (chk_any p c tab W0 hc hm (hrow.below hb0))
  by_cases hk : chkC tab = 0
  · have hkn : (chkC tab != 0) = false := by rw [hk]; rfl
    by_cases hne : name = ByteArray.empty
    · have HR : Hid (findC tab name = (0, true)) := by show findC tab name = _; unfold findC; rw [if_neg (by simp [hk]), if_pos hne]
      have hst : name.toList = [] := by rw [hne, ByteArray.toList_eq]; rfl
      clear hne
      refine callsIn_wide.1 (?_ : CallsIn Fence.wide 8 Try.prog 18 #[.slice p tab.length c, .string name] w _)
      refine callsIn_of_wp_marks Try.func18 rfl (show Fence.wide.fn 18 from trivial) ?_ rfl
      simp only [Try.ntmps18, List.size_toArray, List.length_cons, List.length_nil, Nat.reduceAdd, Nat.reduceSub, Array.replicate_succ, Array.replicate_zero, List.push_toArray, List.append_toArray, List.nil_append, List.cons_append]
      gi_wp2_with (gi_at_call 20; refine (callsIn_wide.2 HC.out).mono ?_; rintro e w2 ⟨rfl, hb2⟩; have hF := hF0.after (by omega) hb2; have hF2s := hb2.size; have d0 := cell_of_row w2 _ 0 _ _ _ hF.box; have d1 := cell_of_row w2 _ 0 _ _ _ hF.r1; have d2 := cell_of_row w2 _ 0 _ _ _ hF.r2; have f1 := frozen_of_row w2 _ 0 _ _ hF.r1; have f2 := frozen_of_row w2 _ 0 _ _ hF.r2; simp at d0 d1 d2)
      have hF3 := hF.done 0 true
      have d3 := cell_of_row _ _ 0 _ _ _ hF3.r1
      have d4 := cell_of_row _ _ 0 _ _ _ hF3.r2
      simp at d3 d4
      refine ⟨.tuple #[.int .i64 0, .bool true], by simp [results, Try.results18, go_sem, d3, d4], by rw [HR.out], hF3.below⟩
    · have hst : ¬ name.toList = [] := by
        rw [ByteArray.toList_eq]
        intro hl
        exact absurd (by cases name; simp at hl; simp [hl]; rfl) hne
      have hst2 : name.toList.isEmpty = false := by simpa using hst
      refine callsIn_wide.1 (?_ : CallsIn Fence.wide 8 Try.prog 18 #[.slice p tab.length c, .string name] w _)
      refine callsIn_of_wp_marks Try.func18 rfl (show Fence.wide.fn 18 from trivial) ?_ rfl
      simp only [Try.ntmps18, List.size_toArray, List.length_cons, List.length_nil, Nat.reduceAdd, Nat.reduceSub, Array.replicate_succ, Array.replicate_zero, List.push_toArray, List.append_toArray, List.nil_append, List.cons_append]
      gi_wp2_with (first | (gi_at_call 20; refine (callsIn_wide.2 HC.out).mono ?_; rintro e w2 ⟨rfl, hb2⟩; have hF := hF0.after (by omega) hb2; have hF2s := hb2.size; have d0 := cell_of_row w2 _ 0 _ _ _ hF.box; have d1 := cell_of_row w2 _ 0 _ _ _ hF.r1; have d2 := cell_of_row w2 _ 0 _ _ _ hF.r2; have f1 := frozen_of_row w2 _ 0 _ _ hF.r1; have f2 := frozen_of_row w2 _ 0 _ _ hF.r2; simp at d0 d1 d2) | (gi_at_call 30; refine (callsIn_wide.2 (names_any _ _ _ _)).mono ?_; rintro e w3 ⟨rfl, rfl⟩))
      obtain ⟨W3, hW3⟩ : ∃ W3, w2.alloc (.cells #[.slice p tab.length c] 25) = W3 := ⟨_, rfl⟩
      rw [hW3]
      have hs3 : W3.heap.size = w2.heap.size + 1 := by rw [← hW3]; simp
      have hb3 : Below w2.heap.size w2 W3 := by rw [← hW3]; exact (Below.refl _ _).alloc (Nat.le_refl _) _
      have hT0 : FindB w name 0 false W3 := hF.after (by omega) hb3
      have hbx0 : W3.heap[w2.heap.size]? = some (.cells #[.slice p tab.length c] 25 (0, 0)) := by rw [← hW3]; exact heap_alloc_new w2 _
      have hpl : ∀ a, p = some a → a.block < w.heap.size := fun a ha => by
        obtain ⟨b, o, hpe, hbw, _⟩ := hrow.at (by
          have := (chk_ends tab hk).1
          cases tab with
          | nil => simp [ends0] at this
          | cons => simp [u8s])
        rw [ha] at hpe; cases hpe; exact hbw
      have hseq := names1_seq 7 (by omega) tab hm w.heap.size (fun T => T == 25) rfl w2.heap.size p c hc W3 hbx0 (by omega) (hrow.below hT0.below) hpl
      clear hW3 hb3 hbx0 hW0 d0 d1 d2 f1 f2
      refine wpIn_rangeFunc_O rfl (by omega) (gf := 35) (lb := #[.pointer (some ⟨w2.heap.size, 0, none⟩)]) rfl trivial (enters_of Try.func35 (by kernel_rfl) rfl) hseq
        KpT.trans (fun W l o o' hl h1 h2 h3 => KpT.putObj (by omega) W l o o' hl h1 h2 h3) (Below.refl _ _) (fun _ => rfl)
        (fun pre W' => (∀ r ∈ pre, r.2 ≠ name) ∧ FindB w name 0 false W') (fun c pre W' => c = .ret ∧ ∃ pr x, pre = pr ++ [x] ∧ (∀ r ∈ pr, r.2 ≠ name) ∧ x.2 = name ∧ FindB w name x.1 true W')
        (fun s A B row hs hg hr => ⟨hs.1, hs.2.kept (by omega) hg (fun r e => (hr r e).1)⟩)
        (fun c s A B row hs hg hr => by obtain ⟨h1, pr, x, h2, h3, h4, h5⟩ := hs; exact ⟨h1, pr, x, h2, h3, h4, h5.kept (by omega) hg (fun r e => (hr r e).1)⟩)
        ⟨by simp, hT0⟩
        ?act ?assign ?body ?done ?stop
      case assign =>
        intro l x W K hK
        simp only [encR]
        gi_wp2
        exact hK
      case body =>
        rintro l' pre x W1 ⟨hnd, hT⟩ hlen
        have d0 := cell_of_row W1 _ 0 _ _ _ hT.box
        have d1 := cell_of_row W1 _ 0 _ _ _ hT.r1
        have d2 := cell_of_row W1 _ 0 _ _ _ hT.r2
        have f1 := frozen_of_row W1 _ 0 _ _ hT.r1
        have f2 := frozen_of_row W1 _ 0 _ _ hT.r2
        simp at d0 d1 d2
        have HN := hid hnd
        have hWs := hT.below.size
        clear hnd
        by_cases hx : x.2 = name
        · have e1 := strEq hx
          have HX := hid hx
          clear hx
          gi_wp2
          exact ⟨((KeepsOthers.setCell W1 _ _).trans (KeepsOthers.setCell _ _ _)).from _, rfl, pre, x, rfl, HN.out, HX.out, hT.done _ _⟩
        · have e1 := strNe hx
          have HX := hid hx
          clear hx
          gi_wp2
          exact ⟨KeepsFrom.refl _ _, KpT.refl _ _ _, by
            intro r hr
            rcases List.mem_append.1 hr with h | h
            · exact HN.out r h
            · simp at h; subst h; exact HX.out, hT⟩
      case done =>
        rintro xs W1 rfl ⟨hnd, hT⟩ hD
        have d1 := cell_of_row W1 _ 0 _ _ _ hT.r1
        have d2 := cell_of_row W1 _ 0 _ _ _ hT.r2
        have f1 := frozen_of_row W1 _ 0 _ _ hT.r1
        have f2 := frozen_of_row W1 _ 0 _ _ hT.r2
        simp at d1 d2
        have HR : Hid (findC tab name = (0, false)) := by
          show findC tab name = _
          unfold findC
          rw [if_neg (by simp [hk]), if_neg hne, (findRow_none _ _).2 (by
            intro h
            obtain ⟨r, hr, e⟩ := List.mem_map.1 h
            exact hnd r hr e)]
        gi_wp2
        have hF3 := hT.done 0 false
        have hD3 := (Below.heap_setCell (W1.setCell ⟨w.heap.size + 1, 0, none⟩ (.int .i64 0)) ⟨w.heap.size + 1 + 1, 0, none⟩ (.bool false) _ (by simp; omega)).trans ((Below.heap_setCell W1 ⟨w.heap.size + 1, 0, none⟩ (.int .i64 0) _ (by simp; omega)).trans hD)
        refine ⟨by simp, .inl ⟨_, _, rfl, run_takeDeferred hD3, ?_⟩⟩
        have hF4 := hF3.kept (B := W3.heap.size) (by omega) (grownBy_putObj' _ W3.heap.size (.deferred none)) (fun r e => by cases e; exact Nat.le_refl _)
        have d3 := cell_of_row _ _ 0 _ _ _ hF4.r1
        have d4 := cell_of_row _ _ 0 _ _ _ hF4.r2
        simp at d3 d4
        refine ⟨.tuple #[.int .i64 0, .bool false], by simp [results, Try.results18, go_sem, d3, d4], by rw [HR.out], hF4.below⟩
      case stop =>
        rintro c pre W1 hpre ⟨rfl, pr, x, rfl, hnd, hx, hT⟩ hD
        have HR : Hid (findC tab name = ((x.1 : Int), true)) := by
          obtain ⟨suf, hs⟩ := hpre
          show findC tab name = _
          unfold findC
          rw [if_neg (by simp [hk]), if_neg hne, ← hs, List.append_assoc, List.singleton_append, findRow_pre pr x suf name hnd hx]
        gi_wp2
        refine ⟨by simp, .inl ⟨_, _, rfl, run_takeDeferred hD, ?_⟩⟩
        have hF4 := hT.kept (B := W3.heap.size) (by omega) (grownBy_putObj' _ W3.heap.size (.deferred none)) (fun r e => by cases e; exact Nat.le_refl _)
        have d3 := cell_of_row _ _ 0 _ _ _ hF4.r1
        have d4 := cell_of_row _ _ 0 _ _ _ hF4.r2
        simp at d3 d4
        refine ⟨.tuple #[.int .i64 x.1, .bool true], by simp [results, Try.results18, go_sem, d3, d4], by rw [HR.out], hF4.below⟩
  · have HR : Hid (findC tab name = (0, false)) := if_pos hk
    have hkn : (chkC tab != 0) = true := by rw [bne_iff_ne]; exact hk
    refine callsIn_wide.1 (?_ : CallsIn Fence.wide 8 Try.prog 18 #[.slice p tab.length c, .string name] w _)
    refine callsIn_of_wp_marks Try.func18 rfl (show Fence.wide.fn 18 from trivial) ?_ rfl
    simp only [Try.ntmps18, List.size_toArray, List.length_cons, List.length_nil, Nat.reduceAdd, Nat.reduceSub, Array.replicate_succ, Array.replicate_zero, List.push_toArray, List.append_toArray, List.nil_append, List.cons_append]
    gi_wp2_with (gi_at_call 20; refine (callsIn_wide.2 HC.out).mono ?_; rintro e w2 ⟨rfl, hb2⟩; have hF := hF0.after (by omega) hb2; have hF2s := hb2.size; have d0 := cell_of_row w2 _ 0 _ _ _ hF.box; have d1 := cell_of_row w2 _ 0 _ _ _ hF.r1; have d2 := cell_of_row w2 _ 0 _ _ _ hF.r2; have f1 := frozen_of_row w2 _ 0 _ _ hF.r1; have f2 := frozen_of_row w2 _ 0 _ _ hF.r2; simp at d0 d1 d2)
    have hF3 := hF.done 0 false
    have d3 := cell_of_row _ _ 0 _ _ _ hF3.r1
    have d4 := cell_of_row _ _ 0 _ _ _ hF3.r2
    simp at d3 d4
    refine ⟨.tuple #[.int .i64 0, .bool false], by simp [results, Try.results18, go_sem, d3, d4], by rw [HR.out], hF3.below⟩
end Go.Proofs.Ytaophcndkhnbeaa
