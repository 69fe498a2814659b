/-
  The walk of CellsNone.
-/
import Derived.Test.YtfpgdaefdpjcmaaNoMem
import Derived.Test.YtfpgdaefdpjcmaaStays
import Derived.Test.YtfpgdaefdpjcmaaRange
import Derived.LoopNIn
import Derived.Shelf.Abstract
import Derived.WalkMore
namespace Go.Proofs.Ytfpgdaefdpjcmaa
open Go.RowKit
attribute [local go_sem] Oper.semAt_some
theorem wide_fn (f : FuncId) : Fence.wide.fn f = True := rfl
theorem wide_depth : Fence.wide.depth = none := rfl
attribute [local go_sem] wide_fn wide_depth

/-- What All hands back for no cells goes through nothing. -/
theorem all1_none (n : Nat) (b : Nat) (w : World) (hbw : b < w.heap.size) (hcb : w.cell? ⟨b, 0, none⟩ = some (.slice none 0 0)) :
    SeqV Fence.wide n Try.prog 47 #[.pointer (some ⟨b, 0, none⟩)] (fun y : Value × Value => #[y.1, y.2]) (fun _ _ _ _ => False) (fun W W' => Below W.heap.size W W') (fun k => k = b) (fun ys => ys = []) (fun _ => False) w := by
  intro l J Jx W hW hJ hJx hY h0
  have hc0 := (hW.cell (p := ⟨b, 0, none⟩) hbw).trans hcb
  have hszW := hW.size
  have H0 := hid h0
  clear h0 hJ hJx hY
  show CallsIn Fence.wide n Try.prog 47 #[.func (.yield l) #[] #[], .pointer (some ⟨b, 0, none⟩)] W _
  refine callsIn_of_wp Try.func47 rfl (show Fence.wide.fn 47 from trivial) ?_ rfl
  simp only [Try.ntmps47, List.size_toArray, List.length_cons, List.length_nil, Nat.reduceAdd, Nat.reduceSub, Array.replicate_succ, Array.replicate_zero, List.push_toArray, List.append_toArray, List.nil_append, List.cons_append]
  gi_wp2
  refine wpIn_loop_once ?_
  gi_wp2
  go_end0
  exact ⟨⟨_, rfl⟩, .inl ⟨_, _, _, rfl, H0.out⟩⟩

def NF (B S : Nat) (ak ac ao an : Int) (W : World) : Prop :=
  (W.cell? ⟨B, 0, none⟩ = some (i64 ak) ∧ W.cell? ⟨B, 1, none⟩ = some (i64 ac) ∧ W.cell? ⟨B, 2, none⟩ = some (i64 ao) ∧ W.cell? ⟨B, 3, none⟩ = some (i64 an)) ∧
  (W.cell? ⟨B + 1, 0, none⟩ = some (.bool false) ∧ W.frozen? ⟨B + 1, 0, none⟩ = false) ∧
  (W.cell? ⟨S + 1, 0, none⟩ = some (.pointer none) ∧ W.cell? ⟨S + 1, 1, none⟩ = some (.pointer (some ⟨S, 0, none⟩))) ∧ NoMem W (.pointer (some ⟨S, 0, none⟩)) ∧ B + 1 < W.heap.size ∧ S + 1 < W.heap.size
theorem NF.below {B S : Nat} {ak ac ao an : Int} {w w' : World} (h : NF B S ak ac ao an w) (hb : Below w.heap.size w w') : NF B S ak ac ao an w' := by
  obtain ⟨⟨a1, a2, a3, a4⟩, ⟨b1, b2⟩, ⟨c1, c2⟩, d, e1, e2⟩ := h
  have hz := hb.size
  refine ⟨⟨?_, ?_, ?_, ?_⟩, ⟨?_, ?_⟩, ⟨?_, ?_⟩, d.below hb, by omega, by omega⟩
  · exact (hb.cell (p := ⟨B, 0, none⟩) (by simp; omega)).trans a1
  · exact (hb.cell (p := ⟨B, 1, none⟩) (by simp; omega)).trans a2
  · exact (hb.cell (p := ⟨B, 2, none⟩) (by simp; omega)).trans a3
  · exact (hb.cell (p := ⟨B, 3, none⟩) (by simp; omega)).trans a4
  · exact (hb.cell (p := ⟨B + 1, 0, none⟩) (by simp; omega)).trans b1
  · exact (hb.frozen (p := ⟨B + 1, 0, none⟩) (by simp; omega)).trans b2
  · exact (hb.cell (p := ⟨S + 1, 0, none⟩) (by simp; omega)).trans c1
  · exact (hb.cell (p := ⟨S + 1, 1, none⟩) (by simp; omega)).trans c2

set_option maxHeartbeats 1000000 in
theorem none_walk (w : World) (wk : Int) (_ : (Lit.int .i64 wk).wf = true) (a : Ac) (_ : a.ok) :
    Calls Try.prog 9 #[i64 wk, .agg a.cells.toArray] w fun e w' => e = .returned (.bool true) ∧ Below w.heap.size w w' := by
  have HLV := hid (live_any)
  have hnf : ∀ (w : World) (a : Addr), (binOp .eql 61 (.func (.func 47) #[] #[.pointer (some a)]) .nilFunc).run Try.prog w = .ok (.bool false) w := fun w a => by kernel_rfl
  have HDO := hid (fun (m : Value) w1 (hm : NoMem w1 m) => do_none m wk a w1 hm)
  have HWT := hid (fun (m : Value) w1 (hm : NoMem w1 m) => waits_none m wk a w1 hm)
  have HAL := hid (fun (m : Value) w1 (hm : NoMem w1 m) => all_none m w1 hm)
  have HST := hid (fun (m : Value) w1 (hm : NoMem w1 m) => steps_none m w1 hm)
  have HCL := hid (fun (m : Value) w1 (hm : NoMem w1 m) => clone_none m w1 hm)
  obtain ⟨ak, ac, ao, an⟩ := a
  unfold Ac.val at HDO HWT
  dsimp only at HDO HWT
  show Calls Try.prog 9 #[i64 wk, .agg #[i64 ak, i64 ac, i64 ao, i64 an]] w _
  refine callsIn_wide.1 (?_ : CallsIn Fence.wide 5 Try.prog 9 #[i64 wk, .agg #[i64 ak, i64 ac, i64 ao, i64 an]] w _)
  refine callsIn_of_wp_marks Try.func9 rfl (show Fence.wide.fn 9 from trivial) ?_ rfl
  simp only [Try.ntmps9, List.size_toArray, List.length_cons, List.length_nil, Nat.reduceAdd, Nat.reduceSub, Array.replicate_succ, Array.replicate_zero, List.push_toArray, List.append_toArray, List.nil_append, List.cons_append]
  gi_wp2_with (gi_at_call 11; refine (callsIn_wide.2 (HLV.out _)).mono ?_; rintro e w1 ⟨rfl, hb1⟩)
  obtain ⟨B, hB⟩ : ∃ B, B = w.heap.size := ⟨_, rfl⟩
  obtain ⟨S, hS⟩ : ∃ S, S = w1.heap.size := ⟨_, rfl⟩
  obtain ⟨wA, hA⟩ : ∃ x, x = (w1.alloc (.cells #[.bool false, .slice none 0 0, i64 0] 56)).alloc (.cells #[.pointer none, .pointer (some ⟨w1.heap.size, 0, none⟩)] 54) := ⟨_, rfl⟩
  rw [← hA, ← hS, ← hB]
  have hbw1 : Below w.heap.size w w1 := (((Below.refl _ _).alloc (Nat.le_refl _) _).alloc (by simp) _).trans (hb1.mono (by simp; omega))
  have hszw := hbw1.size
  have hszw1 := hb1.size
  simp only [World.size_alloc] at hszw1
  have hbw : Below w.heap.size w wA := by rw [hA]; exact (hbw1.alloc hszw _).alloc (by simp; omega) _
  have hnfa : NF B S ak ac ao an wA := by
    have hbA : Below w1.heap.size w1 wA := by rw [hA]; exact ((Below.refl _ _).alloc (Nat.le_refl _) _).alloc (by simp) _
    have hzA : wA.heap.size = w1.heap.size + 2 := by rw [hA]; simp
    have e0 : wA.heap[B]? = some (.cells #[i64 ak, i64 ac, i64 ao, i64 an] 26 (0, 0)) := by
      rw [hB]; exact (hbA.block _ (by omega)).trans ((hb1.block _ (by simp; omega)).trans ((Below.heap_alloc _ _ _ (by simp)).trans (heap_alloc_new w _)))
    have e1 : wA.heap[B + 1]? = some (.cells #[.bool false] 4 (0, 0)) := by
      rw [hB]
      have hn := heap_alloc_new (w.alloc (.cells #[i64 ak, i64 ac, i64 ao, i64 an] 26)) (.cells #[.bool false] 4 (0, 0))
      rw [World.size_alloc] at hn
      exact (hbA.block _ (by omega)).trans ((hb1.block _ (by simp)).trans hn)
    have e2 : wA.heap[S]? = some (.cells #[.bool false, .slice none 0 0, i64 0] 56 (0, 0)) := by
      rw [hS, hA]; exact (Below.heap_alloc _ _ _ (by simp)).trans (heap_alloc_new w1 _)
    have e3 : wA.heap[S + 1]? = some (.cells #[.pointer none, .pointer (some ⟨w1.heap.size, 0, none⟩)] 54 (0, 0)) := by
      have hn := heap_alloc_new (w1.alloc (.cells #[.bool false, .slice none 0 0, i64 0] 56)) (.cells #[.pointer none, .pointer (some ⟨w1.heap.size, 0, none⟩)] 54 (0, 0))
      rw [World.size_alloc] at hn
      rw [hS, hA]; exact hn
    exact ⟨⟨cell_of_row wA B 0 _ _ _ e0, cell_of_row wA B 1 _ _ _ e0, cell_of_row wA B 2 _ _ _ e0, cell_of_row wA B 3 _ _ _ e0⟩, ⟨cell_of_row wA _ 0 _ _ _ e1, frozen_of_row wA _ 0 _ _ e1⟩,
      ⟨cell_of_row wA _ 0 _ _ _ e3, by rw [hS]; exact cell_of_row wA _ 1 _ _ _ (hS ▸ e3)⟩, .inr ⟨S, rfl, e2⟩, by omega, by omega⟩
  have HB := hid hB
  have HS := hid hS
  clear hA hB hS
  refine wpIn_loop_rounds 3 ?_
  rw [roundsIn_succ]
  have NFa := hid hnfa
  obtain ⟨⟨a1a, a2a, a3a, a4a⟩, ⟨b1a, b2a⟩, ⟨c1a, c2a⟩, nma, e1a, e2a⟩ := hnfa
  gi_wp2_with (first
    | (gi_at_call 22; refine (callsIn_wide.2 (HDO.out _ _ (.inl rfl))).mono ?_; rintro e w2a ⟨rfl, hb2a⟩)
    | (gi_at_call 23; refine (callsIn_wide.2 (HAL.out _ _ (.inl rfl))).mono ?_; rintro e w3a ⟨rfl, hc3a, hb3a, hl3a⟩))
  refine wpIn_rangeFunc_V rfl (by omega) (gf := 47) (lb := #[.pointer (some ⟨w2a.heap.size, 0, none⟩)]) rfl trivial (enters_of Try.func47 (by kernel_rfl) rfl) (all1_none 4 w2a.heap.size w3a hl3a hc3a) (Below.refl _ _) (fun _ => rfl)
      (by rintro k rfl; exact hl3a)
      (fun W W' h k o hk _ _ => (h.block k (Array.getElem?_eq_some_iff.1 hk).1).trans hk)
      (fun _ _ _ _ _ _ _ h _ => h.elim)
      (fun _ _ _ W => Below w3a.heap.size w3a W) (fun _ _ _ => False) (fun _ _ _ W W' h hst => h.trans (hst.mono h.size)) (fun _ _ _ _ h _ => h)
      (fun _ _ _ W r o h hl => Below.putObjB h h.size (by omega) o) (fun _ _ _ _ _ h _ => h) ?starta ?acta ?assigna ?bodya ?donea ?stopa
  case starta => intro r; exact ((Below.refl _ _).alloc (Nat.le_refl _) _).alloc (by simp) _
  case assigna =>
    intro l x W K hK
    gi_wp2
    exact hK
  case bodya => intro l pre T hs x W _ h; exact h.elim
  case stopa => rintro c pre W _ h _; exact h.elim
  rintro ysa Ta hsa W1a hysa hI1a hD1a
  clear hysa
  have hWa : Below wA.heap.size wA W1a := (hb2a.trans (hb3a.mono hb2a.size)).trans (hI1a.mono (Nat.le_trans hb2a.size hb3a.size))
  obtain ⟨⟨f1a, f2a, f3a, f4a⟩, ⟨g1a, g2a⟩, ⟨h1a, h2a⟩, nna, i1a, i2a⟩ := NFa.out.below hWa
  gi_wp2_with (first
    | (gi_at_call 24; refine (callsIn_wide.2 (HWT.out _ _ (.inl rfl))).mono ?_; rintro e w4a ⟨rfl, hb4a⟩)
    | (gi_at_call 25; refine (callsIn_wide.2 (HST.out _ _ (.inl rfl))).mono ?_; rintro e w5a ⟨rfl, hb5a⟩)
    | (gi_at_call 26; refine (callsIn_wide.2 (HCL.out _ _ (.inl rfl))).mono ?_; rintro e w6a ⟨rfl, hb6a⟩; have NGa := hid ((NFa.out.below hWa).below ((hb4a.trans (hb5a.mono hb4a.size)).trans (hb6a.mono (Nat.le_trans hb4a.size hb5a.size)))); have hw6a := (hb4a.trans (hb5a.mono hb4a.size)).trans (hb6a.mono (Nat.le_trans hb4a.size hb5a.size)); obtain ⟨⟨j1a, j2a, j3a, j4a⟩, ⟨k1a, k2a⟩, ⟨l1a, l2a⟩, noa, m1a, m2a⟩ := NGa.out))
  have NFb := NGa
  rw [roundsIn_succ]
  obtain ⟨⟨a1b, a2b, a3b, a4b⟩, ⟨b1b, b2b⟩, ⟨c1b, c2b⟩, nmb, e1b, e2b⟩ := NFb.out
  gi_wp2_with (first
    | (gi_at_call 22; refine (callsIn_wide.2 (HDO.out _ _ nmb)).mono ?_; rintro e w2b ⟨rfl, hb2b⟩)
    | (gi_at_call 23; refine (callsIn_wide.2 (HAL.out _ _ (nmb.below hb2b))).mono ?_; rintro e w3b ⟨rfl, hc3b, hb3b, hl3b⟩))
  refine wpIn_rangeFunc_V rfl (by omega) (gf := 47) (lb := #[.pointer (some ⟨w2b.heap.size, 0, none⟩)]) rfl trivial (enters_of Try.func47 (by kernel_rfl) rfl) (all1_none 4 w2b.heap.size w3b hl3b hc3b) (Below.refl _ _) (fun _ => rfl)
      (by rintro k rfl; exact hl3b)
      (fun W W' h k o hk _ _ => (h.block k (Array.getElem?_eq_some_iff.1 hk).1).trans hk)
      (fun _ _ _ _ _ _ _ h _ => h.elim)
      (fun _ _ _ W => Below w3b.heap.size w3b W) (fun _ _ _ => False) (fun _ _ _ W W' h hst => h.trans (hst.mono h.size)) (fun _ _ _ _ h _ => h)
      (fun _ _ _ W r o h hl => Below.putObjB h h.size (by omega) o) (fun _ _ _ _ _ h _ => h) ?startb ?actb ?assignb ?bodyb ?doneb ?stopb
  case startb => intro r; exact ((Below.refl _ _).alloc (Nat.le_refl _) _).alloc (by simp) _
  case assignb =>
    intro l x W K hK
    gi_wp2
    exact hK
  case bodyb => intro l pre T hs x W _ h; exact h.elim
  case stopb => rintro c pre W _ h _; exact h.elim
  rintro ysb Tb hsb W1b hysb hI1b hD1b
  clear hysb
  have hWb : Below w6a.heap.size w6a W1b := (hb2b.trans (hb3b.mono hb2b.size)).trans (hI1b.mono (Nat.le_trans hb2b.size hb3b.size))
  obtain ⟨⟨f1b, f2b, f3b, f4b⟩, ⟨g1b, g2b⟩, ⟨h1b, h2b⟩, nnb, i1b, i2b⟩ := NFb.out.below hWb
  gi_wp2_with (first
    | (gi_at_call 24; refine (callsIn_wide.2 (HWT.out _ _ nnb)).mono ?_; rintro e w4b ⟨rfl, hb4b⟩)
    | (gi_at_call 25; refine (callsIn_wide.2 (HST.out _ _ (nnb.below hb4b))).mono ?_; rintro e w5b ⟨rfl, hb5b⟩)
    | (gi_at_call 26; refine (callsIn_wide.2 (HCL.out _ _ ((nnb.below hb4b).below hb5b))).mono ?_; rintro e w6b ⟨rfl, hb6b⟩; have NGb := hid ((NFb.out.below hWb).below ((hb4b.trans (hb5b.mono hb4b.size)).trans (hb6b.mono (Nat.le_trans hb4b.size hb5b.size)))); have hw6b := (hb4b.trans (hb5b.mono hb4b.size)).trans (hb6b.mono (Nat.le_trans hb4b.size hb5b.size)); obtain ⟨⟨j1b, j2b, j3b, j4b⟩, ⟨k1b, k2b⟩, ⟨l1b, l2b⟩, nob, m1b, m2b⟩ := NGb.out))
  rw [roundsIn_succ]
  gi_wp2
  have zz := HB.out
  have z1 := hbw.size
  have z2 := hWa.size
  have z3 := hw6a.size
  have z4 := hWb.size
  have z5 := hw6b.size
  have z6 := hb2a.size
  have z7 := hb3a.size
  have z8 := hb2b.size
  have z9 := hb3b.size
  have za := hI1a.size
  have zb := hI1b.size
  have la := (Array.getElem?_eq_some_iff.1 hD1a).1
  have lb := (Array.getElem?_eq_some_iff.1 hD1b).1
  obtain ⟨WS, hWS⟩ : ∃ x, x = w6b.setCell ⟨B + 1, 0, none⟩ (.bool true) := ⟨_, rfl⟩
  rw [← hWS]
  have dB : WS.heap[w3b.heap.size]? = some (.deferred (some [])) := by
    rw [hWS, Below.heap_setCell _ _ _ _ (by simp; omega)]
    exact (hw6b.block _ lb).trans hD1b
  have dA : WS.heap[w3a.heap.size]? = some (.deferred (some [])) := by
    rw [hWS, Below.heap_setCell _ _ _ _ (by simp; omega)]
    exact (hw6b.block _ (by omega)).trans ((hWb.block _ (by omega)).trans ((hw6a.block _ la).trans hD1a))
  have dA2 : (WS.putObj w3b.heap.size (.deferred none)).heap[w3a.heap.size]? = some (.deferred (some [])) := (World.putObj_heap_other (by omega)).trans dA
  have cS : WS.cell? ⟨B + 1, 0, none⟩ = some (.bool true) := by rw [hWS]; exact World.cell?_setCell_same _ _ _ k1b
  have cS2 := cell_kept cS (grownBy_putObj' WS w3b.heap.size (.deferred none)) (fun r e => by cases e; exact ⟨_, dB, rfl⟩)
  have cS3 := cell_kept cS2 (grownBy_putObj' _ w3a.heap.size (.deferred none)) (fun r e => by cases e; exact ⟨_, dA2, rfl⟩)
  have bS : Below w.heap.size w WS := by
    rw [hWS]
    exact ((((hbw.trans (hWa.mono z1)).trans (hw6a.mono (by omega))).trans (hWb.mono (by omega))).trans (hw6b.mono (by omega))).setCell (by simp; omega) _
  have bS3 := Below.putObjB (Below.putObjB bS bS.size (l := w3b.heap.size) (by omega) (.deferred none)) (by rw [World.putObj_size]; exact bS.size) (l := w3a.heap.size) (by omega) (.deferred none)
  refine ⟨by simp, .inl ⟨_, _, rfl, run_takeDeferred dB, ?_⟩⟩
  refine ⟨by simp, .inl ⟨_, _, rfl, run_takeDeferred dA2, ?_⟩⟩
  exact ⟨.bool true, by simp [results, Try.results9, go_sem, cS3], rfl, bS3⟩
end Go.Proofs.Ytfpgdaefdpjcmaa
