/-
  Machines that no call made: what each function answers; Cells of a machine that no call made; calls with no machine; The walk of SchedNone.
  The walk of SchedStuck, where there is room for all its steps.
-/
import Derived.Test.YthmockfeffikjaaJE27
import Derived.Test.YthmockfeffikjaaJE19
import Derived.LoopNIn
import Derived.Test.YthmockfeffikjaaJE25
import Derived.Test.YthmockfeffikjaaJS0
/-! Machines that no call made: what each function answers. -/
namespace Go.Proofs.Ythmockfeffikjaa
open Go.RowKit
attribute [local go_sem] Oper.semAt_some
attribute [local go_sem] wide_fnM wide_depthM

def NoL (w : World) (m : Value) : Prop := m = .pointer none ∨ ∃ b, m = .pointer (some ⟨b, 0, none⟩) ∧ w.heap[b]? = some (.cells #[.pointer none, .slice none 0 0, .slice none 0 0] 67 (0, 0))
theorem NoL.below {w w' : World} {m : Value} (h : NoL w m) (hb : Below w.heap.size w w') : NoL w' m := by
  rcases h with rfl | ⟨b, rfl, h⟩
  · exact .inl rfl
  · exact .inr ⟨b, rfl, (hb.block b (Array.getElem?_eq_some_iff.1 h).1).trans h⟩
theorem nol_facts {w : World} {b : Nat} (h : w.heap[b]? = some (.cells #[.pointer none, .slice none 0 0, .slice none 0 0] 67 (0, 0))) :
    (w.cell? ⟨b, 0, none⟩ = some (.pointer none) ∧ w.cell? ⟨b, 1, none⟩ = some (.slice none 0 0) ∧ w.cell? ⟨b, 2, none⟩ = some (.slice none 0 0)) ∧ b < w.heap.size :=
  ⟨⟨cell_of_row w b 0 _ _ _ h, cell_of_row w b 1 _ _ _ h, cell_of_row w b 2 _ _ _ h⟩, (Array.getElem?_eq_some_iff.1 h).1⟩
theorem nworkers (m : Value) (w : World) (hm : NoL w m) : Calls Try.prog 25 #[m] w fun e w' => e = .returned (i64 0) ∧ w = w' := by
  rcases hm with rfl | ⟨b, rfl, h⟩
  · go_enter Try.func25, Try.ntmps25
    go_wp2
    go_ret
    exact ⟨rfl, rfl⟩
  · obtain ⟨⟨k0, k1, k2⟩, kl⟩ := nol_facts h
    clear h
    go_enter Try.func25, Try.ntmps25
    go_wp2
    go_ret
    exact ⟨rfl, rfl⟩
theorem nis (m : Value) (n : Int) (w : World) (hm : NoL w m) : Calls Try.prog 38 #[m, i64 n] w fun e w' => e = .returned (.bool false) ∧ w = w' := by
  have HW := hid (nworkers m w hm)
  clear hm
  by_cases h0 : 0 ≤ n
  · go_enter Try.func38, Try.ntmps38
    go_wp2_with (go_at_call 25; refine HW.out.mono ?_; rintro e w' ⟨rfl, rfl⟩)
    go_ret
    exact ⟨ret_bool (by simp; omega), rfl⟩
  · go_enter Try.func38, Try.ntmps38
    go_wp2_with (go_at_call 25; refine HW.out.mono ?_; rintro e w' ⟨rfl, rfl⟩)
    go_ret
    exact ⟨ret_bool (by first | rfl | (simp; omega)), rfl⟩
theorem nnext (m : Value) (n : Int) (w : World) (hm : NoL w m) : Calls Try.prog 42 #[m, i64 n] w fun e w' => e = .returned (.tuple #[.agg #[i64 0, i64 0, i64 0, i64 0], .bool false]) ∧ Below w.heap.size w w' := by
  have HI := hid (fun w1 (hb : Below w.heap.size w w1) => nis m n w1 (hm.below hb))
  clear hm
  go_enter Try.func42, Try.ntmps42
  go_upto_region 1 with (fail)
  go_quiet ((go_at_call 38; exact quiet_sym (HI.out _ (below_drewN ((Below.refl _ _).alloc (Nat.le_refl _) _) _))))
  go_wp2_with fail
  exact bodyPost_ret (v := .tuple #[.agg #[i64 0, i64 0, i64 0, i64 0], .bool false]) (by simp [results, Try.results42, go_sem]) rfl ⟨rfl, by
    repeat (refine Below.setCell ?_ (by simp) _)
    exact below_drewN ((Below.refl _ _).alloc (Nat.le_refl _) _) _⟩
theorem ndone (m : Value) (n : Int) (w : World) (hm : NoL w m) : Calls Try.prog 26 #[m, i64 n] w fun e w' => e = .returned (.bool true) ∧ Below w.heap.size w w' := by
  have HN := hid (nnext m n w hm)
  clear hm
  go_enter Try.func26, Try.ntmps26
  go_wp2_with (go_at_call 42; (with_reducible refine HN.out.mono ?_); rintro e w3 ⟨rfl, hb3⟩; have HB3 := hid hb3; clear hb3)
  go_ret
  exact ⟨ret_bool rfl, HB3.out.alloc HB3.out.size _⟩
theorem nwaits (m : Value) (n : Int) (w : World) (hm : NoL w m) : Calls Try.prog 27 #[m, i64 n] w fun e w' => e = .returned (.bool false) ∧ Below w.heap.size w w' := by
  have HN := hid (nnext m n w hm)
  clear hm
  go_enter Try.func27, Try.ntmps27
  go_upto_region 2 with (go_at_call 42; (with_reducible refine HN.out.mono ?_); rintro e w3 ⟨rfl, hb3⟩; have HB3 := hid hb3; clear hb3)
  go_quiet (fail)
  go_wp2_with fail
  go_ret
  exact ⟨ret_bool rfl, below_drewN (HB3.out.alloc HB3.out.size _) _⟩
theorem nstep (m : Value) (n : Int) (w : World) (hm : NoL w m) : Calls Try.prog 24 #[m, i64 n] w fun e w' => e = .returned (.tuple #[]) ∧ Below w.heap.size w w' := by
  have HN := hid (nnext m n w hm)
  clear hm
  go_enter Try.func24, Try.ntmps24
  go_wp2_with (go_at_call 42; (with_reducible refine HN.out.mono ?_); rintro e w3 ⟨rfl, hb3⟩; have HB3 := hid hb3; clear hb3)
  exact bodyPost_ret (v := .tuple #[]) (results_none rfl _ _ _) rfl ⟨rfl, HB3.out.alloc HB3.out.size _⟩
theorem nanswers (m : Value) (n : Int) (w : World) (hm : NoL w m) : Calls Try.prog 18 #[m, i64 n] w fun e w' => e = .returned (.slice none 0 0) ∧ w = w' := by
  have HI := hid (nis m n w hm)
  clear hm
  go_enter Try.func18, Try.ntmps18
  go_wp2_with (go_at_call 38; (with_reducible refine HI.out.mono ?_); rintro e w' ⟨rfl, rfl⟩)
  go_ret
  exact ⟨rfl, rfl⟩
theorem nall (w : World) : Calls Try.prog 45 #[.pointer none] w fun e w' => e = .returned (.func (.func 53) #[] #[.pointer (some ⟨w.heap.size, 0, none⟩)]) ∧ w'.cell? ⟨w.heap.size, 0, none⟩ = some (.slice none 0 0) ∧ Below w.heap.size w w' ∧ w.heap.size < w'.heap.size := by
  have HN := hid (heap_alloc_new w (.cells #[.slice none 0 0] 25 (0, 0)))
  go_enter Try.func45, Try.ntmps45
  go_wp2
  go_ret
  exact ⟨rfl, cell_of_row _ _ 0 _ _ _ HN.out, (Below.refl _ _).alloc (Nat.le_refl _) _, by simp⟩
theorem nall1 (n : Nat) (b : Nat) (w : World) (hbw : b < w.heap.size) (hcb : w.cell? ⟨b, 0, none⟩ = some (.slice none 0 0)) :
    SeqV Fence.wide n Try.prog 53 #[.pointer (some ⟨b, 0, none⟩)] (fun y : Int × CeR => encC y) (fun _ _ _ _ => False) (fun W W' => Below W.heap.size W W') (fun k => k = b) (fun ys => ys = []) (fun _ => False) w := by
  intro l J Jx W hW hJ hJx hY h0
  have hc0 := (hW.cell (p := ⟨b, 0, none⟩) hbw).trans hcb
  have hszW := hW.size
  have H0 := hid h0
  clear h0 hJ hJx hY
  show CallsIn Fence.wide n Try.prog 53 #[.func (.yield l) #[] #[], .pointer (some ⟨b, 0, none⟩)] W _
  refine callsIn_of_wp Try.func53 rfl (show Fence.wide.fn 53 from trivial) ?_ rfl
  simp only [Try.ntmps53, List.size_toArray, List.length_cons, List.length_nil, Nat.reduceAdd, Nat.reduceSub, Array.replicate_succ, Array.replicate_zero, List.push_toArray, List.append_toArray, List.nil_append, List.cons_append]
  gi_wp2
  refine wpIn_loop_once ?_
  gi_wp2
  go_end0
  exact ⟨⟨_, rfl⟩, .inl ⟨_, _, _, rfl, H0.out⟩⟩
end Go.Proofs.Ythmockfeffikjaa
/-! Cells of a machine that no call made; calls with no machine. -/
namespace Go.Proofs.Ythmockfeffikjaa
open Go.RowKit
attribute [local go_sem] Oper.semAt_some
attribute [local go_sem] wide_fnM wide_depthM

theorem ncells0 (w : World) : Calls Try.prog 28 #[.pointer none] w fun e w' => e = .returned (.slice none 0 0) ∧ Below w.heap.size w w' := by
  go_enter Try.func28, Try.ntmps28
  go_wp2
  go_ret
  exact ⟨rfl, (Below.refl _ _).alloc (Nat.le_refl _) _⟩
theorem ncells1 (w : World) (b : Nat) (h : w.heap[b]? = some (.cells #[.pointer none, .slice none 0 0, .slice none 0 0] 67 (0, 0))) : Calls Try.prog 28 #[.pointer (some ⟨b, 0, none⟩)] w fun e w' => e = .returned (.slice none 0 0) ∧ Below w.heap.size w w' := by
  obtain ⟨⟨k0, k1, k2⟩, kl⟩ := nol_facts h
  clear h
  have HAL := hid nall
  have HB0 : Hid (Below w.heap.size w (w.alloc (.cells #[.slice none 0 0] 25))) := (Below.refl _ _).alloc (Nat.le_refl _) _
  refine callsIn_wide.1 (?_ : CallsIn Fence.wide 5 Try.prog 28 #[.pointer (some ⟨b, 0, none⟩)] w _)
  refine callsIn_of_wp_marks Try.func28 rfl (show Fence.wide.fn 28 from trivial) ?_ rfl
  simp only [Try.ntmps28, List.size_toArray, List.length_cons, List.length_nil, Nat.reduceAdd, Nat.reduceSub, Array.replicate_succ, Array.replicate_zero, List.push_toArray, List.append_toArray, List.nil_append, List.cons_append]
  gi_wp2_with (gi_at_call 45; refine (callsIn_wide.2 (HAL.out _)).mono ?_; rintro e w2 ⟨rfl, hc2, hb2, hl2⟩; have HB2 := hid hb2)
  have hz2 := HB2.out.size
  simp only [World.size_alloc] at hz2 hc2 hl2 ⊢
  have HBw : Hid (Below w.heap.size w w2) := HB0.out.trans (HB2.out.mono (by simp))
  have hcv : w2.heap[w.heap.size]? = some (.cells #[.slice none 0 0] 25 (0, 0)) := (HB2.out.block _ (by simp)).trans (heap_alloc_new w _)
  refine wpIn_rangeFunc_VA rfl (by omega) (gf := 53) (lb := #[.pointer (some ⟨w.heap.size + 1, 0, none⟩)]) rfl trivial (enters_of Try.func53 (by kernel_rfl) rfl) (nall1 4 (w.heap.size + 1) w2 hl2 hc2) (Below.refl _ _) (fun _ => rfl)
    (by rintro k rfl; exact hl2)
    (fun W W' h k o hk _ _ => (h.block k (Array.getElem?_eq_some_iff.1 hk).1).trans hk)
    (fun _ _ _ _ _ _ _ h _ => h.elim)
    (fun _ _ _ W => Below w2.heap.size w2 W) (fun _ _ _ => False) (fun _ _ _ W W' h hst => h.trans (hst.mono h.size)) (fun _ _ _ _ h _ => h)
    (fun _ _ _ W r o h hl => Below.putObjB h h.size (by omega) o) (fun _ _ _ _ _ h _ => h) ?start
    ?acta (fun x W => W.alloc (.cells #[i64 x.2.x.kind, i64 x.2.x.n, i64 x.2.x.owner, i64 x.2.x.need, .slice x.2.p x.2.x.came.length x.2.c, i64 x.2.x.turns, .bool x.2.x.there] 30)) (fun x W => (Below.refl _ _).alloc (Nat.le_refl _) _) (fun x W => (Below.refl _ _).alloc (Nat.le_refl _) _)
    (fun pre hs x W h => h) ?assigna ?bodya ?donea ?stopa
  case start => intro r; exact ((Below.refl _ _).alloc (Nat.le_refl _) _).alloc (by simp) _
  case assigna =>
    intro l x W K hK
    unfold encC Ce.val
    gi_wp2
    exact hK
  case bodya => intro l pre T hs x W0 r _ h; exact h.elim
  case stopa => rintro c pre W _ h _; exact h.elim
  case donea =>
    rintro ys T hs W1 hys hI hD
    clear hys
    have hcw : W1.cell? ⟨w.heap.size, 0, none⟩ = some (.slice none 0 0) := cell_of_row _ _ 0 _ _ _ ((hI.block _ (by omega)).trans hcv)
    gi_wp2
    refine ⟨by simp, .inl ⟨_, _, rfl, run_takeDeferred hD, ?_⟩⟩
    have hlz := (Array.getElem?_eq_some_iff.1 hD).1
    exact ⟨.slice none 0 0, by simp [results, Try.results28, go_sem], rfl, Below.putObjB (HBw.out.trans (hI.mono HBw.out.size)) (Nat.le_trans HBw.out.size hI.size) (by omega) _⟩
theorem ncells (m : Value) (w : World) (hm : NoL w m) : Calls Try.prog 28 #[m] w fun e w' => e = .returned (.slice none 0 0) ∧ Below w.heap.size w w' := by
  rcases hm with rfl | ⟨b, rfl, h⟩
  · exact ncells0 w
  · exact ncells1 w b h
theorem npick (n : Int) (w : World) : Calls Try.prog 23 #[.nilIface, i64 n] w fun e w' => e = .returned (.bool false) ∧ w = w' := by
  go_enter Try.func23, Try.ntmps23
  go_wp2
  go_ret
  exact ⟨rfl, rfl⟩
theorem nfin (w : World) : Calls Try.prog 12 #[.nilIface] w fun e w' => e = .returned (.bool false) ∧ w = w' := by
  go_enter Try.func12, Try.ntmps12
  go_wp2
  go_ret
  exact ⟨rfl, rfl⟩
theorem nenab (w : World) : Calls Try.prog 19 #[.nilIface] w fun e w' => e = .returned (.func (.func 40) #[] #[.pointer (some ⟨w.heap.size, 0, none⟩)]) ∧ w'.heap[w.heap.size]? = some (intL (.slice none 0 0)) ∧ Below w.heap.size w w' := by
  have HN := hid (heap_alloc_new w (.cells #[.slice none 0 0] 23 (0, 0)))
  go_enter Try.func19, Try.ntmps19
  go_wp2
  go_ret
  exact ⟨rfl, HN.out, (Below.refl _ _).alloc (Nat.le_refl _) _⟩
end Go.Proofs.Ythmockfeffikjaa
/-! The walk of SchedNone. -/
namespace Go.Proofs.Ythmockfeffikjaa
open Go.RowKit
attribute [local go_sem] Oper.semAt_some
attribute [local go_sem] wide_fnM wide_depthM

/-- What lies while the loop goes on. -/
structure N0 (B S : Nat) (W : World) : Prop where
  b : W.heap[B]? = some (.cells #[.bool false] 4 (0, 0))
  s : W.heap[S]? = some (.cells #[.pointer none, .slice none 0 0, .slice none 0 0] 67 (0, 0))
  r : W.heap[S + 1]? = some (.cells #[.pointer none, .pointer (some ⟨S, 0, none⟩)] 35 (0, 0))
theorem N0.below {B S : Nat} {w w' : World} (h : N0 B S w) (hb : Below w.heap.size w w') : N0 B S w' :=
  ⟨(hb.block _ (Array.getElem?_eq_some_iff.1 h.b).1).trans h.b, (hb.block _ (Array.getElem?_eq_some_iff.1 h.s).1).trans h.s, (hb.block _ (Array.getElem?_eq_some_iff.1 h.r).1).trans h.r⟩
theorem N0.cells {B S : Nat} {W : World} (h : N0 B S W) : W.cell? ⟨S + 1, 0, none⟩ = some (.pointer none) ∧ W.cell? ⟨S + 1, 1, none⟩ = some (.pointer (some ⟨S, 0, none⟩)) ∧ S + 1 < W.heap.size ∧ B < W.heap.size ∧ W.cell? ⟨B, 0, none⟩ = some (.bool false) ∧ W.frozen? ⟨B, 0, none⟩ = false :=
  ⟨cell_of_row _ _ 0 _ _ _ h.r, cell_of_row _ _ 1 _ _ _ h.r, (Array.getElem?_eq_some_iff.1 h.r).1, (Array.getElem?_eq_some_iff.1 h.b).1, cell_of_row _ _ 0 _ _ _ h.b, frozen_of_row _ _ _ _ _ h.b⟩

set_option maxRecDepth 100000 in
set_option maxHeartbeats 4000000 in
theorem none_walk (w : World) (wk : Int) (v : Value) (most : Int) :
    Calls Try.prog 8 #[i64 wk, v, i64 most] w fun e w' => e = .returned (.bool true) ∧ Below w.heap.size w w' := by
  have HLV := hid (live_any)
  have hnf : ∀ (w : World) (a : Addr), (binOp .eql 55 (.func (.func 40) #[] #[.pointer (some a)]) .nilFunc).run Try.prog w = .ok (.bool false) w := fun w a => by kernel_rfl
  have HSP := hid (fun (m : Value) w1 (hm : NoL w1 m) => nstep m wk w1 hm)
  have HWK := hid (fun (m : Value) w1 (hm : NoL w1 m) => nworkers m w1 hm)
  have HDN := hid (fun (m : Value) w1 (hm : NoL w1 m) => ndone m wk w1 hm)
  have HWT := hid (fun (m : Value) w1 (hm : NoL w1 m) => nwaits m wk w1 hm)
  have HAN := hid (fun (m : Value) w1 (hm : NoL w1 m) => nanswers m wk w1 hm)
  have HCE := hid (fun (m : Value) w1 (hm : NoL w1 m) => ncells m w1 hm)
  have HRN := hid (fun w1 => run_nil v most w1)
  have HEN := hid nenab
  have HPK := hid (fun w1 => npick wk w1)
  have HFN := hid nfin
  have HB0 : Hid (Below w.heap.size w (w.alloc (.cells #[.bool false] 4))) := (Below.refl _ _).alloc (Nat.le_refl _) _
  have hr0 := hid (heap_alloc_new w (.cells #[.bool false] 4 (0, 0)))
  refine callsIn_wide.1 (?_ : CallsIn Fence.wide 5 Try.prog 8 #[i64 wk, v, i64 most] w _)
  refine callsIn_of_wp_marks Try.func8 rfl (show Fence.wide.fn 8 from trivial) ?_ rfl
  simp only [Try.ntmps8, List.size_toArray, List.length_cons, List.length_nil, Nat.reduceAdd, Nat.reduceSub, Array.replicate_succ, Array.replicate_zero, List.push_toArray, List.append_toArray, List.nil_append, List.cons_append]
  gi_wp2_with (gi_at_call 9; refine (callsIn_wide.2 (HLV.out _)).mono ?_; rintro e w1 ⟨rfl, hb1⟩; have HB1 := hid hb1; clear hb1)
  obtain ⟨wA, hA⟩ : ∃ x, x = (w1.alloc (.cells #[.pointer none, .slice none 0 0, .slice none 0 0] 67)).alloc (.cells #[.pointer none, .pointer (some ⟨w1.heap.size, 0, none⟩)] 35) := ⟨_, rfl⟩
  rw [← hA]
  have hz1 := HB1.out.size
  simp only [World.size_alloc] at hz1
  have HBA : Hid (Below w.heap.size w wA) := by
    rw [hA]
    exact ((HB0.out.trans (HB1.out.mono (by simp))).alloc (by omega) _).alloc (by simp; omega) _
  have HN0 : Hid (N0 w.heap.size w1.heap.size wA) := by
    have hb : Below w1.heap.size w1 wA := by rw [hA]; exact ((Below.refl _ _).alloc (Nat.le_refl _) _).alloc (by simp) _
    refine ⟨(hb.block _ (by omega)).trans ((HB1.out.block _ (by simp)).trans hr0.out), ?_, ?_⟩
    · rw [hA]; exact (Below.heap_alloc _ _ _ (by simp)).trans (heap_alloc_new w1 _)
    · rw [hA]
      have hn := heap_alloc_new (w1.alloc (.cells #[.pointer none, .slice none 0 0, .slice none 0 0] 67)) (.cells #[.pointer none, .pointer (some ⟨w1.heap.size, 0, none⟩)] 35 (0, 0))
      rw [World.size_alloc] at hn
      exact hn
  clear hA hz1
  obtain ⟨c0, c1, cz, _⟩ := HN0.out.cells
  refine wpIn_loop_rounds 3 ?_
  rw [roundsIn_succ]
  gi_wp2_with (first
    | (gi_at_call 24; refine (callsIn_wide.2 (HSP.out _ _ (.inl rfl))).mono ?_; rintro e w2a ⟨rfl, hb2a⟩; have HB2a := hid hb2a; clear hb2a)
    | (gi_at_call 25; refine (callsIn_wide.2 (HWK.out _ _ (.inl rfl))).mono ?_; rintro e w' ⟨rfl, rfl⟩)
    | (gi_at_call 26; refine (callsIn_wide.2 (HDN.out _ _ (.inl rfl))).mono ?_; rintro e w3a ⟨rfl, hb3a⟩; have HB3a := hid (below_tr hb3a HB2a.out (Nat.le_refl _)); clear hb3a)
    | (gi_at_call 27; refine (callsIn_wide.2 (HWT.out _ _ (.inl rfl))).mono ?_; rintro e w4a ⟨rfl, hb4a⟩; have HB4a := hid (below_tr hb4a HB3a.out (Nat.le_refl _)); clear hb4a)
    | (gi_at_call 18; refine (callsIn_wide.2 (HAN.out _ _ (.inl rfl))).mono ?_; rintro e w' ⟨rfl, rfl⟩)
    | (gi_at_call 28; refine (callsIn_wide.2 (HCE.out _ _ (.inl rfl))).mono ?_; rintro e w5a ⟨rfl, hb5a⟩; have HB5a := hid (below_tr hb5a HB4a.out (Nat.le_refl _)); have HN5a := hid (HN0.out.below HB5a.out); obtain ⟨d0a, d1a, dza, _⟩ := HN5a.out.cells; clear hb5a))
  have HNB : Hid (NoL w5a (.pointer (some ⟨w1.heap.size, 0, none⟩))) := .inr ⟨_, rfl, HN5a.out.s⟩
  rw [roundsIn_succ]
  gi_wp2_with (first
    | (gi_at_call 24; refine (callsIn_wide.2 (HSP.out _ _ HNB.out)).mono ?_; rintro e w2b ⟨rfl, hb2b⟩; have HB2b := hid hb2b; clear hb2b)
    | (gi_at_call 25; refine (callsIn_wide.2 (HWK.out _ _ (HNB.out.below HB2b.out))).mono ?_; rintro e w' ⟨rfl, rfl⟩)
    | (gi_at_call 26; refine (callsIn_wide.2 (HDN.out _ _ (HNB.out.below HB2b.out))).mono ?_; rintro e w3b ⟨rfl, hb3b⟩; have HB3b := hid (below_tr hb3b HB2b.out (Nat.le_refl _)); clear hb3b)
    | (gi_at_call 27; refine (callsIn_wide.2 (HWT.out _ _ (HNB.out.below HB3b.out))).mono ?_; rintro e w4b ⟨rfl, hb4b⟩; have HB4b := hid (below_tr hb4b HB3b.out (Nat.le_refl _)); clear hb4b)
    | (gi_at_call 18; refine (callsIn_wide.2 (HAN.out _ _ (HNB.out.below HB4b.out))).mono ?_; rintro e w' ⟨rfl, rfl⟩)
    | (gi_at_call 28; refine (callsIn_wide.2 (HCE.out _ _ (HNB.out.below HB4b.out))).mono ?_; rintro e w5b ⟨rfl, hb5b⟩; have HB5b := hid (below_tr hb5b HB4b.out (Nat.le_refl _)); have HN5b := hid (HN5a.out.below HB5b.out); obtain ⟨d0b, d1b, dzb, _⟩ := HN5b.out.cells; clear hb5b))
  rw [roundsIn_succ]
  gi_wp2_with (first
    | (gi_at_call 11; refine (callsIn_wide.2 (HRN.out _)).mono ?_; rintro e w6 ⟨rfl, hb6⟩; have HB6 := hid (below_tr hb6 HB5b.out (Nat.le_refl _)); clear hb6)
    | (gi_at_call 19; refine (callsIn_wide.2 (HEN.out _)).mono ?_; rintro e w7 ⟨rfl, hh7, hb7⟩; have HH7 := hid hh7; have HB7 := hid (below_tr hb7 (HB6.out.alloc HB6.out.size _) (by exact Nat.le_refl _)); clear hb7 hh7))
  have hh7 := HH7.out
  rw [World.size_alloc] at hh7
  have hz7 := (Array.getElem?_eq_some_iff.1 hh7).1
  have hseq := enab1_seq (w := w7) (b := w6.heap.size + 1) (l := []) (v := .slice none 0 0) 4 (by omega) hh7 (World.ownsRow_nil _ _ _ _) (by simp)
  refine wpIn_rangeFunc_V rfl (by omega) (gf := 40) (lb := #[.pointer (some ⟨w6.heap.size + 1, 0, none⟩)]) rfl trivial (enters_of Try.func40 (by kernel_rfl) rfl) hseq (Below.refl _ _) (fun _ => rfl)
    (fun k hk => by
      rcases hk with h | h
      · omega
      · cases h)
    (fun W W' h k o hk _ _ => (h.block k (Array.getElem?_eq_some_iff.1 hk).1).trans hk)
    (fun _ _ _ _ _ _ _ h _ => h)
    (fun _ _ _ W => Below w7.heap.size w7 W) (fun _ _ _ => False) (fun _ _ _ W W' h hst => h.trans (hst.mono h.size)) (fun _ _ _ _ h _ => h)
    (fun _ _ _ W r o h hl => Below.putObjB h h.size (by omega) o) (fun _ _ _ _ _ h _ => h) ?start ?acta ?assigna ?bodya ?donea ?stopa
  case start => intro r; exact ((Below.refl _ _).alloc (Nat.le_refl _) _).alloc (by simp) _
  case assigna =>
    intro l x W K hK
    gi_wp2
    exact hK
  case bodya =>
    rintro l pre T hs x W _ ⟨suf, h⟩
    simp at h
  case stopa => rintro c pre W _ h _; exact h.elim
  case donea =>
    rintro ys T hs W1 hys hI hD
    have HI := hid hI
    have HD := hid hD
    have HNW := hid ((HN5a.out.below HB7.out).below hI)
    obtain ⟨_, _, _, g3, g4, g5⟩ := HNW.out.cells
    clear hys hI hD
    gi_wp2_with (first
      | (gi_at_call 23; refine (callsIn_wide.2 (HPK.out _)).mono ?_; rintro e w' ⟨rfl, rfl⟩)
      | (gi_at_call 12; refine (callsIn_wide.2 (HFN.out _)).mono ?_; rintro e w' ⟨rfl, rfl⟩))
    obtain ⟨WS, hWS⟩ : ∃ x, x = W1.setCell ⟨w.heap.size, 0, none⟩ (.bool true) := ⟨_, rfl⟩
    rw [← hWS]
    have y1 := HBA.out.size
    have y2 := HB5a.out.size
    have y3 := HB7.out.size
    have y4 := HI.out.size
    have dA : WS.heap[w7.heap.size]? = some (.deferred (some [])) := by
      rw [hWS, Below.heap_setCell _ _ _ _ (by simp; omega)]
      exact HD.out
    have hlz := (Array.getElem?_eq_some_iff.1 HD.out).1
    have cS : WS.cell? ⟨w.heap.size, 0, none⟩ = some (.bool true) := by rw [hWS]; exact World.cell?_setCell_same _ _ _ g4
    have cS2 := cell_kept cS (grownBy_putObj' WS w7.heap.size (.deferred none)) (fun r e => by cases e; exact ⟨_, dA, rfl⟩)
    have bS : Below w.heap.size w WS := by
      rw [hWS]
      exact (((HBA.out.trans (HB5a.out.mono y1)).trans (HB7.out.mono (by omega))).trans (HI.out.mono (by omega))).setCell (by simp) _
    have bS3 := Below.putObjB bS bS.size (l := w7.heap.size) (by omega) (.deferred none)
    refine ⟨by simp, .inl ⟨_, _, rfl, run_takeDeferred dA, ?_⟩⟩
    exact ⟨.bool true, by simp [results, Try.results8, go_sem, cS2], rfl, bS3⟩
theorem sn_walk (w : World) (wk : Int) {P0 : Prop} (_ : P0) (o : Option Addr) (c : Nat) (x : List Int) {P1 : Prop} (_ : P1) (most : Int) {P2 : Prop} (_ : P2) :
    Calls Try.prog 8 #[i64 wk, .slice o x.length c, i64 most] w fun e w' => e = .returned (.bool true) ∧ Below w.heap.size w w' := none_walk w wk _ most
end Go.Proofs.Ythmockfeffikjaa
namespace Go.Proofs.Ythmockfeffikjaa
open Go.RowKit
attribute [local go_sem] Oper.semAt_some
attribute [local go_sem] wide_fnM wide_depthM

/-- The law's own blocks: the setup, the result. -/
structure Q0 (A : Nat) (z : SetR) (W : World) : Prop where
  a : W.heap[A]? = some (.cells z.cells.toArray 28 (0, 0))
  b : W.heap[A + 1]? = some (.cells #[.bool false] 4 (0, 0))
theorem Q0.below {A : Nat} {z : SetR} {w w' : World} (h : Q0 A z w) (hb : Below w.heap.size w w') : Q0 A z w' :=
  ⟨(hb.block _ (Array.getElem?_eq_some_iff.1 h.a).1).trans h.a, (hb.block _ (Array.getElem?_eq_some_iff.1 h.b).1).trans h.b⟩
theorem Q0.facts {A : Nat} {z : SetR} {W : World} (h : Q0 A z W) : W.cell? ⟨A, 0, none⟩ = some (.slice z.cp z.zs.length z.cc) ∧ W.cell? ⟨A, 1, none⟩ = some (.slice z.wp z.work.length z.wc) ∧ W.cell? ⟨A, 2, none⟩ = some (.slice z.kp z.ps.length z.kc) ∧ W.cell? ⟨A + 1, 0, none⟩ = some (.bool false) ∧ W.frozen? ⟨A + 1, 0, none⟩ = false ∧ A + 1 < W.heap.size := by
  have ha := h.a
  rw [z.cells_eq] at ha
  exact ⟨cell_of_row _ _ 0 _ _ _ ha, cell_of_row _ _ 1 _ _ _ ha, cell_of_row _ _ 2 _ _ _ ha, cell_of_row _ _ 0 _ _ _ h.b, frozen_of_row _ _ _ _ _ h.b, (Array.getElem?_eq_some_iff.1 h.b).1⟩

theorem q0_new (w : World) (z : SetR) : Q0 w.heap.size z ((w.alloc (.cells #[.slice z.cp z.zs.length z.cc, .slice z.wp z.work.length z.wc, .slice z.kp z.ps.length z.kc] 28)).alloc (.cells #[.bool false] 4)) := by
  refine ⟨?_, ?_⟩
  · rw [z.cells_eq]; exact (Below.heap_alloc _ _ _ (by simp)).trans (heap_alloc_new w _)
  · have := heap_alloc_new (w.alloc (.cells #[.slice z.cp z.zs.length z.cc, .slice z.wp z.work.length z.wc, .slice z.kp z.ps.length z.kc] 28)) (.cells #[.bool false] 4 (0, 0))
    rw [World.size_alloc] at this; exact this
set_option maxRecDepth 100000 in
set_option maxHeartbeats 4000000 in
theorem stuck_no (w : World) (z : SetR) (hz : z.ok w) (hf : fewS z.zs z.work z.ps = false) :
    Calls Try.prog 5 #[.agg z.cells.toArray] w fun e w' => e = .returned (.bool true) ∧ Below w.heap.size w w' := by
  have HLV := hid live_any
  have HB0 : Hid (Below w.heap.size w ((w.alloc (.cells #[.slice z.cp z.zs.length z.cc, .slice z.wp z.work.length z.wc, .slice z.kp z.ps.length z.kc] 28)).alloc (.cells #[.bool false] 4))) := ((Below.refl _ _).alloc (Nat.le_refl _) _).alloc (by simp) _
  have HQ0 := hid (q0_new w z)
  have HFW := hid (fun w1 (hb : Below w.heap.size w w1) => few_at (hz.below hb))
  rw [hf] at HFW
  rw [z.cells_eq] at HFW ⊢
  clear hz hf
  change Calls Try.prog 5 #[.agg #[.slice z.cp z.zs.length z.cc, .slice z.wp z.work.length z.wc, .slice z.kp z.ps.length z.kc]] w _
  go_enter Try.func5, Try.ntmps5
  go_wp2_with (first
    | (go_at_call 9; refine (HLV.out _).mono ?_; rintro e w1 ⟨rfl, hb1⟩; have HB1 := hid hb1; have HQ1 := hid (HQ0.out.below hb1); obtain ⟨x0, x1, x2, x3, x4, x5⟩ := HQ1.out.facts; clear hb1)
    | (go_at_call 13; refine (HFW.out _ (HB0.out.trans (HB1.out.mono HB0.out.size))).mono ?_; rintro e w2 ⟨rfl, hb2⟩; have HQ2 := hid (HQ1.out.below hb2); have HB2 := hid (below_tr hb2 HB1.out (Nat.le_refl _)); obtain ⟨g0, g1, g2, g3, g4, g5⟩ := HQ2.out.facts; clear hb2))
  have c1 : (w2.setCell ⟨w.heap.size + 1, 0, none⟩ (.bool true)).cell? ⟨w.heap.size + 1, 0, none⟩ = some (.bool true) := World.cell?_setCell_same _ _ _ g3
  exact bodyPost_ret (v := .bool true) (by simp [results, Try.results5, go_sem, c1]) rfl ⟨rfl, (HB0.out.trans (HB2.out.mono HB0.out.size)).setCell (show w.heap.size ≤ w.heap.size + 1 by omega) _⟩
set_option maxRecDepth 100000 in
set_option maxHeartbeats 4000000 in
theorem stuck_bad (w : World) (z : SetR) (hz : z.ok w) (hf : fewS z.zs z.work z.ps = true) (hn : nlE (z.zs.map CeR.x) z.work ≠ 0) :
    Calls Try.prog 5 #[.agg z.cells.toArray] w fun e w' => e = .returned (.bool true) ∧ Below w.heap.size w w' := by
  have HLV := hid live_any
  have HB0 : Hid (Below w.heap.size w ((w.alloc (.cells #[.slice z.cp z.zs.length z.cc, .slice z.wp z.work.length z.wc, .slice z.kp z.ps.length z.kc] 28)).alloc (.cells #[.bool false] 4))) := ((Below.refl _ _).alloc (Nat.le_refl _) _).alloc (by simp) _
  have HQ0 := hid (q0_new w z)
  have HFW := hid (fun w1 (hb : Below w.heap.size w w1) => few_at (hz.below hb))
  have HNL := hid (fun w1 (hb : Below w.heap.size w w1) => newlists_at (hz.below hb))
  have HNE := hid hn
  rw [hf] at HFW
  rw [z.cells_eq] at HFW ⊢
  unfold NLTell at HNL
  generalize nlE (z.zs.map CeR.x) z.work = ne at *
  have hne : ¬ ne = 0 := hn
  clear hz hf hn
  change Calls Try.prog 5 #[.agg #[.slice z.cp z.zs.length z.cc, .slice z.wp z.work.length z.wc, .slice z.kp z.ps.length z.kc]] w _
  go_enter Try.func5, Try.ntmps5
  go_wp2_with (first
    | (go_at_call 9; refine (HLV.out _).mono ?_; rintro e w1 ⟨rfl, hb1⟩; have HB1 := hid hb1; have HQ1 := hid (HQ0.out.below hb1); obtain ⟨x0, x1, x2, x3, x4, x5⟩ := HQ1.out.facts; clear hb1)
    | (go_at_call 13; refine (HFW.out _ (HB0.out.trans (HB1.out.mono HB0.out.size))).mono ?_; rintro e w2 ⟨rfl, hb2⟩; have HQ2 := hid (HQ1.out.below hb2); have HB2 := hid (below_tr hb2 HB1.out (Nat.le_refl _)); obtain ⟨g0, g1, g2, g3, g4, g5⟩ := HQ2.out.facts; clear hb2)
    | (go_at_call 10; (with_reducible refine (HNL.out _ (HB0.out.trans (HB2.out.mono HB0.out.size))).mono ?_); rintro e w3 hnt; have hnt2 := hnt.resolve_left (fun h => HNE.out h.1); obtain ⟨_, rfl, hb3⟩ := hnt2; have HQ3 := hid (HQ2.out.below hb3); have HB3 := hid (below_tr hb3 HB2.out (Nat.le_refl _)); obtain ⟨i0, i1, i2, i3, i4, i5⟩ := HQ3.out.facts; clear hnt hb3))
  have c1 : (w3.setCell ⟨w.heap.size + 1, 0, none⟩ (.bool true)).cell? ⟨w.heap.size + 1, 0, none⟩ = some (.bool true) := World.cell?_setCell_same _ _ _ i3
  exact bodyPost_ret (v := .bool true) (by simp [results, Try.results5, go_sem, c1]) rfl ⟨rfl, (HB0.out.trans (HB3.out.mono HB0.out.size)).setCell (show w.heap.size ≤ w.heap.size + 1 by omega) _⟩
end Go.Proofs.Ythmockfeffikjaa
