/-
  A table that no call made: what each function answers.
  A table that no call made: All, and what is told of it.
  The zero table's All; what told gives of no names.
  ShardNone: the walk.
-/
import Derived.Test.YtabkmdhkfbcldaaJI5
namespace Go.Proofs.Ytabkmdhkfbcldaa
open Go.RowKit
variable {w w' : World}

/-- No table, or the zero one. -/
def NoT (w : World) (m : Value) : Prop := m = .pointer none ∨ ∃ b, m = .pointer (some ⟨b, 0, none⟩) ∧ w.heap[b]? = some (.cells #[.pointer none, .int .i64 0, .slice none 0 0, .slice none 0 0, .map none, .map none, .map none, .slice none 0 0, .int .i64 0] 66 (0, 0))
theorem NoT.below {m : Value} (h : NoT w m) (hb : Below w.heap.size w w') : NoT w' m := by
  rcases h with rfl | ⟨b, rfl, h⟩
  · exact .inl rfl
  · exact .inr ⟨b, rfl, (hb.block b (Array.getElem?_eq_some_iff.1 h).1).trans h⟩
theorem zworkers {m : Value} (hm : NoT w m) : Calls Try.prog 15 #[m] w fun e w' => e = .returned (.int .i64 0) ∧ w = w' := by
  rcases hm with rfl | ⟨b, rfl, h⟩
  · go_enter Try.func15, Try.ntmps15
    go_wp2
    go_ret
    exact ⟨rfl, rfl⟩
  · obtain ⟨c0, c1, c2, c3, c4, c5, c6, c7, c8⟩ := tab_cells h
    clear h
    go_enter Try.func15, Try.ntmps15
    go_wp2
    go_ret
    exact ⟨rfl, rfl⟩
theorem zdone {m : Value} (hm : NoT w m) (n : Int) : Calls Try.prog 17 #[m, .int .i64 n] w fun e w' => e = .returned (.bool true) ∧ ∃ q, w' = w.drewN q := by
  have HW := hid (fun q => zworkers (hm.below (below_drewN (Below.refl _ _) q)))
  clear hm
  by_cases h0 : n < 0
  · go_enter Try.func17, Try.ntmps17
    go_upto_region 1 with (fail)
    go_quiet ((go_at_call 15; exact quiet_sym (HW.out _)))
    go_wp2_with fail
    go_ret
    exact ⟨rfl, _, rfl⟩
  · have h1 : 0 ≤ n := by omega
    go_enter Try.func17, Try.ntmps17
    go_upto_region 1 with (fail)
    go_quiet ((go_at_call 15; exact quiet_sym (HW.out _)))
    go_wp2_with fail
    go_ret
    exact ⟨rfl, _, rfl⟩
theorem zwaits {m : Value} (hm : NoT w m) (n : Int) : Calls Try.prog 18 #[m, .int .i64 n] w fun e w' => e = .returned (.bool false) ∧ ∃ q, w' = w.drewN q := by
  have HD := hid (zdone hm n)
  clear hm
  go_enter Try.func18, Try.ntmps18
  go_wp2_with (go_at_call 17; (with_reducible refine HD.out.mono ?_); rintro e w1 ⟨rfl, q1, rfl⟩)
  go_ret
  exact ⟨rfl, _, rfl⟩
theorem zstep {m : Value} (hm : NoT w m) (n : Int) : Calls Try.prog 33 #[m, .int .i64 n] w fun e w' => e = .returned (.tuple #[]) ∧ Below w.heap.size w w' := by
  have HD := hid (zdone hm n)
  clear hm
  go_enter Try.func33, Try.ntmps33
  go_wp2_with (go_at_call 17; (with_reducible refine HD.out.mono ?_); rintro e w1 ⟨rfl, q1, rfl⟩)
  exact bodyPost_ret (v := .tuple #[]) (results_none rfl _ _ _) rfl ⟨rfl, below_drewN (Below.refl _ _) _⟩
theorem look_nil {κ : Type} [DecidableEq κ] {P : Program} {k t el : TypeId} {mk : κ → Value} (K : KeyOk P k mk) (ht : P.underlying t = some (.map k el)) {z : Value} {w : World} (hz : (zeroValue el).run P w = .ok z w) (x : κ) (c : Bool) :
    (Instr.lookup t (.map none) (mk x) c).run P w = .ok (if c then .tuple #[z, .bool false] else z) w := by
  obtain ⟨d, hd, hs, hck⟩ := K.desc
  simp [Instr.lookup, run_underlying ht, hck, hz, Instr.findKey, run_underlying hd, Instr.findNow, Result.andThen]
theorem zget {m : Value} (hm : NoT w m) (key : ByteArray) : Calls Try.prog 22 #[m, .string key] w fun e w' => e = .returned (.tuple #[.int .i64 0, .bool false]) ∧ w = w' := by
  rcases hm with rfl | ⟨b, rfl, h⟩
  · go_enter Try.func22, Try.ntmps22
    go_wp2
    exact bodyPost_ret (v := .tuple #[.int .i64 0, .bool false]) (by simp [results, Try.results22, go_sem]) rfl ⟨rfl, rfl⟩
  · obtain ⟨c0, c1, c2, c3, c4, c5, c6, c7, c8⟩ := tab_cells h
    have hlk := look_nil KSt Try.underlying57 (show (zeroValue 2).run Try.prog w = .ok (.int .i64 0) w by kernel_rfl) key true
    simp only [if_true] at hlk
    clear h
    go_enter Try.func22, Try.ntmps22
    go_wp2
    exact bodyPost_ret (v := .tuple #[.int .i64 0, .bool false]) (by simp [results, Try.results22, go_sem]) rfl ⟨rfl, rfl⟩
theorem zhist {m : Value} (hm : NoT w m) : Calls Try.prog 27 #[m] w fun e w' => (∃ p c, e = .returned (.slice p 0 c)) ∧ Below w.heap.size w w' := by
  rcases hm with rfl | ⟨b, rfl, h⟩
  · go_enter Try.func27, Try.ntmps27
    go_wp2
    go_ret
    exact ⟨⟨_, _, rfl⟩, Below.refl _ _⟩
  · obtain ⟨c0, c1, c2, c3, c4, c5, c6, c7, c8⟩ := tab_cells h
    have HC := hid (cloneC_any none 0 [] w (by simp) (fun _ => rfl) (Row.nil _ _))
    clear h
    unfold CloneC at HC
    go_enter Try.func27, Try.ntmps27
    go_wp2_with (go_at_call 46; (refine HC.out.mono ?_); rintro e w4 ⟨v4, rfl, ho4, hb4⟩; obtain ⟨p4, c4, rfl, -⟩ := own_shape ho4; have HB4 := hid hb4; clear ho4 hb4)
    go_ret
    exact ⟨⟨_, _, rfl⟩, HB4.out⟩
end Go.Proofs.Ytabkmdhkfbcldaa
namespace Go.Proofs.Ytabkmdhkfbcldaa
open Go.RowKit
attribute [local go_sem] Oper.semAt_some
attribute [local go_sem] wide_fnS wide_depthS
variable {w w' W : World}

def Kp1 (bx : Nat) (A B : World) : Prop := B.heap[bx]? = A.heap[bx]?
set_option maxHeartbeats 2000000 in
theorem keys0_seq (n : Nat) (hn : 1 ≤ n) (bx : Nat) (w : World) (hbx : w.heap[bx]? = some (.cells #[.map none] 57 (0, 0))) :
    SeqO Fence.wide n Try.prog 60 #[.pointer (some ⟨bx, 0, none⟩)] encK (Kp1 bx) (fun xs => xs = []) (fun _ => False) 0 w := by
  intro l J Jx W hW hJ hJx hY h0
  have hxl : bx < w.heap.size := (Array.getElem?_eq_some_iff.1 hbx).1
  have hbW := (hW.block bx hxl).trans hbx
  have hcb : W.cell? ⟨bx, 0, none⟩ = some (.map none) := cell_of_row _ _ 0 _ _ _ hbW
  have HST : Hid (J [] (W.alloc (.mapIter none 0 #[] 0))) := hJ.alloc _ h0
  have hrg := run_range_nilMap (P := Try.prog) W 57 9 2 Try.underlying57
  have hnx : ∀ ty, (Instr.next (.pointer (some ⟨W.heap.size, 0, none⟩)) false ty).run Try.prog (W.alloc (.mapIter none 0 #[] 0)) = .ok (.tuple #[.bool false]) (W.alloc (.mapIter none 0 #[] 0)) := fun ty => run_next_nilMap W ty 0 0 #[]
  clear hY h0 hbx hbW
  show CallsIn Fence.wide n Try.prog 60 #[.func (.yield l) #[] #[], .pointer (some ⟨bx, 0, none⟩)] W _
  refine callsIn_of_wp Try.func60 rfl (show Fence.wide.fn 60 from trivial) ?_ rfl
  simp only [Try.ntmps60, List.size_toArray, List.length_cons, List.length_nil, Nat.reduceAdd, Nat.reduceSub, Array.replicate_succ, Array.replicate_zero, List.push_toArray, List.append_toArray, List.nil_append, List.cons_append]
  gi_wp2
  refine wpIn_loop_rounds 1 ?_
  rw [roundsIn_succ]
  gi_wp2
  go_end0
  exact ⟨⟨_, rfl⟩, .inl ⟨[], rfl, HST.out⟩⟩
set_option maxHeartbeats 2000000 in
theorem all0_seq (n : Nat) (hn : 1 ≤ n) {n0 : Nat} (mv : Value) (hv : w.heap[n0]? = some (.cells #[.slice none 0 0] 98 (0, 0))) :
    SeqO Fence.wide n Try.prog 50 #[.pointer (some ⟨n0, 0, none⟩), mv] encP (Kp1 n0) (fun xs => xs = []) (fun _ => False) 0 w := by
  intro l J Jx W hW hJ hJx hY h0
  have hbW := (hW.block n0 (Array.getElem?_eq_some_iff.1 hv).1).trans hv
  have c0 : W.cell? ⟨n0, 0, none⟩ = some (.slice none 0 0) := cell_of_row _ _ 0 _ _ _ hbW
  have HST := hid h0
  clear hv hY h0 hbW
  show CallsIn Fence.wide n Try.prog 50 #[.func (.yield l) #[] #[], .pointer (some ⟨n0, 0, none⟩), mv] W _
  refine callsIn_of_wp Try.func50 rfl (show Fence.wide.fn 50 from trivial) ?_ rfl
  simp only [Try.ntmps50, List.size_toArray, List.length_cons, List.length_nil, Nat.reduceAdd, Nat.reduceSub, Array.replicate_succ, Array.replicate_zero, List.push_toArray, List.append_toArray, List.nil_append, List.cons_append]
  gi_wp2
  refine wpIn_loop_rounds 1 ?_
  rw [roundsIn_succ]
  gi_wp2
  go_end0
  exact ⟨⟨_, rfl⟩, .inl ⟨[], rfl, HST.out⟩⟩
set_option maxRecDepth 20000 in
set_option maxHeartbeats 2000000 in
theorem zclone (w : World) : Calls Try.prog 47 #[.map none] w fun e w' => e = .returned (.map none) ∧ w = w' := by
  have hq := fun w => run_eql_map_nil_sl (P := Try.prog) w 57 _ _ none Try.underlying57
  go_enter Try.func47, Try.ntmps47
  go_wp2
  go_ret
  exact ⟨rfl, rfl⟩
theorem zkeys (w : World) : Calls Try.prog 48 #[.map none] w fun e w' => e = .returned (.func (.func 60) #[] #[.pointer (some ⟨w.heap.size, 0, none⟩)]) ∧ w' = w.alloc (.cells #[.map none] 57) := by
  go_enter Try.func48, Try.ntmps48
  go_wp2
  go_ret
  exact ⟨rfl, rfl⟩
def ZAll (w : World) (e : Ending) (w' : World) : Prop :=
  e = .returned (.func (.func 50) #[] #[.pointer (some ⟨w.heap.size, 0, none⟩), .pointer (some ⟨w.heap.size + 2, 0, none⟩)]) ∧ w'.heap[w.heap.size]? = some (.cells #[.slice none 0 0] 98 (0, 0)) ∧ Below w.heap.size w w'
set_option maxRecDepth 20000 in
set_option maxHeartbeats 2000000 in
theorem zall_nil (w : World) : Calls Try.prog 31 #[.pointer none] w (ZAll w) := by
  have hmm := @run_makeMap Try.prog
  go_enter Try.func31, Try.ntmps31
  go_wp2
  go_ret
  refine ⟨rfl, ?_, (((Below.refl _ _).alloc (Nat.le_refl _) _).alloc (by simp) _).alloc (by simp; omega) _⟩
  exact (Below.heap_alloc _ _ _ (by simp; omega)).trans ((Below.heap_alloc _ _ _ (by simp)).trans (heap_alloc_new w _))
end Go.Proofs.Ytabkmdhkfbcldaa
namespace Go.Proofs.Ytabkmdhkfbcldaa
open Go.RowKit
attribute [local go_sem] Oper.semAt_some
attribute [local go_sem] wide_fnS wide_depthS
variable {w w' W : World}

set_option maxRecDepth 20000 in
set_option maxHeartbeats 2000000 in
theorem zall_zero (w : World) (b : Nat) (h : w.heap[b]? = some (.cells #[.pointer none, .int .i64 0, .slice none 0 0, .slice none 0 0, .map none, .map none, .map none, .slice none 0 0, .int .i64 0] 66 (0, 0))) : Calls Try.prog 31 #[.pointer (some ⟨b, 0, none⟩)] w (ZAll w) := by
  obtain ⟨W0, hW0⟩ : ∃ W0, W0 = ((w.alloc (.cells #[.slice none 0 0] 98)).alloc (.map #[] 0)).alloc (.cells #[.map (some (w.heap.size + 1))] 57) := ⟨_, rfl⟩
  have hz0 : W0.heap.size = w.heap.size + 3 := by rw [hW0]; simp
  have hb0 : Below w.heap.size w W0 := by rw [hW0]; exact (((Below.refl _ _).alloc (Nat.le_refl _) _).alloc (by simp) _).alloc (by simp; omega) _
  have hH := (hb0.block b (Array.getElem?_eq_some_iff.1 h).1).trans h
  have d5 : W0.cell? ⟨b, 5, none⟩ = some (.map none) := cell_of_row _ _ 5 _ _ _ hH
  have hV0 : W0.heap[w.heap.size]? = some (.cells #[.slice none 0 0] 98 (0, 0)) := by
    rw [hW0]; exact (Below.heap_alloc _ _ _ (by simp; omega)).trans ((Below.heap_alloc _ _ _ (by simp)).trans (heap_alloc_new w _))
  have hM0 : W0.heap[w.heap.size + 2]? = some (.cells #[.map (some (w.heap.size + 1))] 57 (0, 0)) := by
    rw [hW0]; exact heap_newAt _ _ _ (by simp)
  have HC := hid (zclone W0)
  have hmm := @run_makeMap Try.prog
  refine callsIn_wide.1 (?_ : CallsIn Fence.wide 9 Try.prog 31 #[.pointer (some ⟨b, 0, none⟩)] w _)
  refine callsIn_of_wp_marks Try.func31 rfl (show Fence.wide.fn 31 from trivial) ?_ rfl
  simp only [Try.ntmps31, List.size_toArray, List.length_cons, List.length_nil, Nat.reduceAdd, Nat.reduceSub, Array.replicate_succ, Array.replicate_zero, List.push_toArray, List.append_toArray, List.nil_append, List.cons_append]
  gi_upto_region 4 with fail
  rw [← hW0]
  have y2 : W0.cell? ⟨w.heap.size + 2, 0, none⟩ = some (.map (some (w.heap.size + 1))) := cell_of_row _ _ 0 _ _ _ hM0
  have yf2 := frozen_of_row _ _ 0 _ _ hM0
  have HB0 := hid hb0
  have HV0 := hid hV0
  have HM0 := hid hM0
  have hlt2 : w.heap.size + 2 < W0.heap.size := by omega
  clear hW0 hb0 hV0 hM0 hmm h hH
  gi_wp2_with (first
    | (gi_at_call 47; (refine (callsIn_wide.2 HC.out).mono ?_); rintro e w2 ⟨rfl, hw2⟩; subst hw2)
    | (gi_at_call 48; (refine (callsIn_wide.2 (zkeys _)).mono ?_); rintro e w3 ⟨rfl, hw3⟩; rw [hw3]; clear hw3))
  obtain ⟨W3, hW3⟩ : ∃ W3, W3 = (W0.setCell ⟨w.heap.size + 1 + 1, 0, none⟩ (.map none)).alloc (.cells #[.map none] 57) := ⟨_, rfl⟩
  rw [← hW3]
  have hz3 : W3.heap.size = w.heap.size + 3 + 1 := by rw [hW3]; simp; omega
  have hV3 : W3.heap[w.heap.size]? = some (.cells #[.slice none 0 0] 98 (0, 0)) := by
    rw [hW3, Below.heap_alloc _ _ _ (by simp; omega), heap_setCell_other _ _ _ _ (by show w.heap.size ≠ w.heap.size + 1 + 1; omega)]; exact HV0.out
  have hb3 : Below w.heap.size w W3 := by rw [hW3]; exact (HB0.out.setCell (by show w.heap.size ≤ w.heap.size + 1 + 1; omega) _).alloc (by simp; omega) _
  have hbx3 : W3.heap[w.heap.size + 3]? = some (.cells #[.map none] 57 (0, 0)) := by rw [hW3]; exact heap_newAt _ _ _ (by simp; omega)
  have hseq := keys0_seq 8 (by omega) (w.heap.size + 3) W3 hbx3
  have HV3 := hid hV3
  have HB3 := hid hb3
  clear hW3 hbx3 y2 yf2 d5 hV3 hb3
  refine wpIn_rangeFunc_O rfl (by omega) (gf := 60) (lb := #[.pointer (some ⟨w.heap.size + 3, 0, none⟩)]) rfl trivial (enters_of Try.func60 (by kernel_rfl) rfl) hseq
    (fun h k => k.trans h) (fun A l o o' hl h1 h2 h3 => World.putObj_heap_other (by omega)) (Below.refl _ _) (fun _ => rfl)
    (fun pre W' => W'.heap[w.heap.size]? = some (.cells #[.slice none 0 0] 98 (0, 0)) ∧ Below w.heap.size w W') (fun _ _ _ => False)
    (fun s A C row hs hg hr => ⟨(hg.block _ (Array.getElem?_eq_some_iff.1 hs.1).1 (fun e => by have := (hr _ e.symm).1; omega)).trans hs.1, hs.2.grown hg hs.2.size (fun r e => by have := (hr r e).1; omega)⟩)
    (fun c s A C row hs hg hr => hs)
    ⟨HV3.out, HB3.out⟩
    ?act ?assign ?body ?done ?stop
  case assign =>
    intro l x W4 K hK
    simp only [encK]
    gi_wp2
    exact hK
  case body =>
    rintro l' pre x W4 _ hpl
    exact absurd hpl (by omega)
  case done =>
    rintro xs W4 rfl ⟨hv, hb⟩ hD
    have g0 : W4.cell? ⟨w.heap.size, 0, none⟩ = some (.slice none 0 0) := cell_of_row _ _ 0 _ _ _ hv
    have HV := hid hv
    have HB := hid hb
    have HSO := hid (Try.slices_Sort_string_none none 0 W4)
    clear hseq hv hb
    gi_wp2_with (gi_at_call 49; (refine (callsIn_wide.2 HSO.out).mono ?_); rintro e w5 ⟨rfl, hw5⟩; first | subst hw5 | (replace hw5 := hw5.symm; subst hw5))
    rw [hz3] at hD
    refine ⟨by simp, .inl ⟨_, _, rfl, run_takeDeferred hD, ?_⟩⟩
    refine ⟨.func (.func 50) #[] #[.pointer (some ⟨w.heap.size, 0, none⟩), .pointer (some ⟨w.heap.size + 2, 0, none⟩)], by simp [results, Try.results31, go_sem], rfl, ?_, ?_⟩
    · rw [World.putObj_heap_other (by omega)]; exact HV.out
    · exact Below.putObjB HB.out (by have h1 := (Array.getElem?_eq_some_iff.1 hD).1; omega) (by omega) _
  case stop =>
    rintro c pre W4 hpre hf
    exact hf.elim
theorem zall {m : Value} (hm : NoT w m) : Calls Try.prog 31 #[m] w (ZAll w) := by
  rcases hm with rfl | ⟨b, rfl, h⟩
  · exact zall_nil w
  · exact zall_zero w b h
set_option maxRecDepth 20000 in
set_option maxHeartbeats 2000000 in
theorem ztold {n0 : Nat} {mv : Value} (h : w.heap[n0]? = some (.cells #[.slice none 0 0] 98 (0, 0))) (mo : Int) (hm0 : 0 ≤ mo) (hm1 : mo ≤ 1000000) :
    Calls Try.prog 30 #[.func (.func 50) #[] #[.pointer (some ⟨n0, 0, none⟩), mv], .int .i64 mo] w fun e w' => e = .returned (.slice none 0 0) ∧ Below w.heap.size w w' := by
  refine callsIn_wide.1 (?_ : CallsIn Fence.wide 9 Try.prog 30 #[.func (.func 50) #[] #[.pointer (some ⟨n0, 0, none⟩), mv], .int .i64 mo] w _)
  refine callsIn_of_wp_marks Try.func30 rfl (show Fence.wide.fn 30 from trivial) ?_ rfl
  simp only [Try.ntmps30, List.size_toArray, List.length_cons, List.length_nil, Nat.reduceAdd, Nat.reduceSub, Array.replicate_succ, Array.replicate_zero, List.push_toArray, List.append_toArray, List.nil_append, List.cons_append]
  have hfn : ∀ w1 : World, (binOp .eql 52 (.func (.func 50) #[] #[.pointer (some ⟨n0, 0, none⟩), mv]) .nilFunc).run Try.prog w1 = .ok (.bool false) w1 := fun w1 => by kernel_rfl
  gi_wp2
  obtain ⟨W3, hW3⟩ : ∃ W3, W3 = (w.alloc (.cells #[.int .i64 (mo : Int)] 3)).alloc (.cells #[.slice none 0 0] 48) := ⟨_, rfl⟩
  rw [← hW3]
  have hz3 : W3.heap.size = w.heap.size + 1 + 1 := by rw [hW3]; simp
  have hb3 : Below w.heap.size w W3 := by rw [hW3]; exact ((Below.refl _ _).alloc (Nat.le_refl _) _).alloc (by simp) _
  have hI0 : W3.heap[w.heap.size + 1]? = some (.cells #[.slice none 0 0] 48 (0, 0)) := by rw [hW3]; exact heap_newAt _ _ _ (by simp)
  have l0 := (Array.getElem?_eq_some_iff.1 h).1
  have hseq := all0_seq 8 (by omega) mv ((hb3.block n0 l0).trans h)
  have HI0 := hid hI0
  have HB3 := hid hb3
  clear hW3 hI0 h hfn hb3
  refine wpIn_rangeFunc_O rfl (by omega) (gf := 50) (lb := #[.pointer (some ⟨n0, 0, none⟩), mv]) rfl trivial (enters_of Try.func50 (by kernel_rfl) rfl) hseq
    (fun h k => k.trans h) (fun A l o o' hl h1 h2 h3 => World.putObj_heap_other (by omega)) (Below.refl _ _) (fun _ => rfl)
    (fun pre W' => W'.heap[w.heap.size + 1]? = some (.cells #[.slice none 0 0] 48 (0, 0)) ∧ Below w.heap.size w W') (fun _ _ _ => False)
    (fun s A C row hs hg hr => ⟨(hg.block _ (Array.getElem?_eq_some_iff.1 hs.1).1 (fun e => by have := (hr _ e.symm).1; omega)).trans hs.1, hs.2.grown hg hs.2.size (fun r e => by have := (hr r e).1; omega)⟩)
    (fun c s A C row hs hg hr => hs)
    ⟨HI0.out, HB3.out⟩
    ?act ?assign ?body ?done ?stop
  case assign =>
    intro l x W4 K hK
    simp only [encP]
    gi_wp2
    exact hK
  case body =>
    rintro l' pre x W4 _ hpl
    exact absurd hpl (by omega)
  case done =>
    rintro xs W4 rfl ⟨hv, hb⟩ hD
    have g0 : W4.cell? ⟨w.heap.size + 1, 0, none⟩ = some (.slice none 0 0) := cell_of_row _ _ 0 _ _ _ hv
    have HB := hid hb
    clear hseq hv hb
    gi_wp2
    refine ⟨by simp, .inl ⟨_, _, rfl, run_takeDeferred hD, ?_⟩⟩
    exact ⟨_, by simp [results, Try.results30, go_sem], rfl, Below.putObjB HB.out (by have h1 := (Array.getElem?_eq_some_iff.1 hD).1; omega) (by omega) _⟩
  case stop =>
    rintro c pre W4 hpre hf
    exact hf.elim
end Go.Proofs.Ytabkmdhkfbcldaa
namespace Go.Proofs.Ytabkmdhkfbcldaa
open Go.RowKit
variable {w w' : World}

set_option maxRecDepth 40000 in
set_option maxHeartbeats 4000000 in
/-- A table that no call made. -/
theorem none_walk (w : World) (n : Int) (hn : (Lit.int .i64 n).wf = true) (key : ByteArray) (hk : key.size ≤ 140737488351232) :
    Calls Try.prog 6 #[.int .i64 n, .string key] w fun e w' => e = .returned (.bool true) ∧ Below w.heap.size w w' := by
  have HBG := hid begun_any
  clear hn hk
  go_enter Try.func6, Try.ntmps6
  go_wp2
  obtain ⟨W0, hW0⟩ : ∃ W0, W0 = ((w.alloc (.cells #[.pointer none, .int .i64 0, .slice none 0 0, .slice none 0 0, .map none, .map none, .map none, .slice none 0 0, .int .i64 0] 66)).alloc (.cells #[.pointer none, .pointer (some ⟨w.heap.size, 0, none⟩)] 30)) := ⟨_, rfl⟩
  have HB0 : Hid (Below w.heap.size w W0) := by unfold Hid; rw [hW0]; exact ((Below.refl _ _).alloc (Nat.le_refl _) _).alloc (by simp) _
  have hz0 : W0.heap.size = w.heap.size + 2 := by rw [hW0]; simp
  have HT0 : Hid (W0.heap[w.heap.size]? = some (.cells #[.pointer none, .int .i64 0, .slice none 0 0, .slice none 0 0, .map none, .map none, .map none, .slice none 0 0, .int .i64 0] 66 (0, 0))) := by unfold Hid; rw [hW0]; exact (Below.heap_alloc _ _ _ (by simp)).trans (heap_alloc_new w _)
  have HR0 : Hid (W0.heap[w.heap.size + 1]? = some (.cells #[.pointer none, .pointer (some ⟨w.heap.size, 0, none⟩)] 30 (0, 0))) := by unfold Hid; rw [hW0]; exact heap_newAt _ _ _ (by simp)
  rw [← hW0]
  clear hW0
  go_loopw [13] (fun i wr => ∃ k : Nat, k ≤ 2 ∧ i = .int .i64 k ∧ Below W0.heap.size W0 wr) (fun i _ => 2 - (intOf i).toNat)
  case atStart => exact ⟨0, by omega, rfl, Below.refl _ _⟩
  case round =>
    rename World => wr
    obtain ⟨k, hk, rfl, hb⟩ := hrel
    have HB := hid hb
    clear hb
    by_cases hlt : k < 2
    · have hltI : (k : Int) < 2 := by omega
      have htab : wr.heap[w.heap.size]? = some (.cells #[.pointer none, .int .i64 0, .slice none 0 0, .slice none 0 0, .map none, .map none, .map none, .slice none 0 0, .int .i64 0] 66 (0, 0)) := (HB.out.block _ (by omega)).trans HT0.out
      obtain ⟨tv, hcell, hno⟩ : ∃ tv, wr.cell? ⟨w.heap.size + 1, k, none⟩ = some tv ∧ NoT wr tv := by
        have hr := (HB.out.block _ (by omega)).trans HR0.out
        rcases (show k = 0 ∨ k = 1 by omega) with rfl | rfl
        · exact ⟨_, cell_of_row _ _ 0 _ _ _ hr, .inl rfl⟩
        · exact ⟨_, cell_of_row _ _ 1 _ _ _ hr, .inr ⟨_, rfl, htab⟩⟩
      have HNO := hid hno
      clear htab hno
      go_wp2_with (first
        | (go_at_call 33; (with_reducible refine (zstep HNO.out n).mono ?_); rintro e w1 ⟨rfl, hb1⟩; have HB1 := hid (HB.out.trans (hb1.mono HB.out.size)); have HN1 := hid (HNO.out.below hb1); have HG1 := hid (zget HN1.out key); clear hb1)
        | (go_at_call 22; (with_reducible refine HG1.out.mono ?_); rintro e w2 ⟨rfl, hw2⟩; subst hw2; have HW2 := hid (zworkers HN1.out))
        | (go_at_call 15; (with_reducible refine HW2.out.mono ?_); rintro e w3 ⟨rfl, hw3⟩; subst hw3; have HD3 := hid (zdone HN1.out n))
        | (go_at_call 17; (with_reducible refine HD3.out.mono ?_); rintro e w4 ⟨rfl, hq4⟩; have hb4 : Below w1.heap.size w1 w4 := (by obtain ⟨q, rfl⟩ := hq4; exact below_drewN (Below.refl _ _) q); have HB4 := hid (HB1.out.trans (hb4.mono HB1.out.size)); have HN4 := hid (HN1.out.below hb4); have HW4 := hid (zwaits HN4.out n); clear hq4 hb4)
        | (go_at_call 18; (with_reducible refine HW4.out.mono ?_); rintro e w5 ⟨rfl, hq5⟩; have hb5 : Below w4.heap.size w4 w5 := (by obtain ⟨q, rfl⟩ := hq5; exact below_drewN (Below.refl _ _) q); have HB5 := hid (HB4.out.trans (hb5.mono HB4.out.size)); have HN5 := hid (HN4.out.below hb5); have HH5 := hid (zhist HN5.out); clear hq5 hb5)
        | (go_at_call 27; (with_reducible refine HH5.out.mono ?_); rintro e w6 ⟨⟨p6, c6, rfl⟩, hb6⟩; have HB6 := hid (HB5.out.trans (hb6.mono HB5.out.size)); have HN6 := hid (HN5.out.below hb6); have HA6 := hid (zall HN6.out); clear hb6)
        | (go_at_call 31; (with_reducible refine HA6.out.mono ?_); rintro e w7 ⟨rfl, hv7, hb7⟩; have HB7 := hid (HB6.out.trans (hb7.mono HB6.out.size)); have HT7 := hid (ztold (mv := .pointer (some ⟨w6.heap.size + 2, 0, none⟩)) hv7 9 (by omega) (by omega)); clear hv7 hb7)
        | (go_at_call 30; (refine HT7.out.mono ?_); rintro e w8 ⟨rfl, hb8⟩; have HB8 := hid (HB7.out.trans (hb8.mono HB7.out.size)); clear hb8))
      exact ⟨⟨k + 1, by omega, by go_num, HB8.out⟩, by simp [intOf]; omega⟩
    · have hke : k = 2 := by omega
      subst hke
      go_wp2_with (go_at_call 7; (with_reducible refine (HBG.out _).mono ?_); rintro e w1 ⟨rfl, hb1⟩; have HB1 := hid (HB.out.trans (hb1.mono HB.out.size)); clear hb1)
      go_ret
      exact ⟨rfl, HB0.out.trans (HB1.out.mono HB0.out.size)⟩
end Go.Proofs.Ytabkmdhkfbcldaa
