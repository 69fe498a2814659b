/-
  The iterator that strtab.Names hands out; the law's rows.
-/
import Derived.Test.YtaophcndkhnbeaaChkI
namespace Go.Proofs.Ytaophcndkhnbeaa
open Go.RowKit
attribute [local go_sem] Oper.semAt_some
attribute [local go_sem] wide_fn wide_depth

/-- What Names goes through. -/
def namesC (tab : List UInt8) : List (Nat × ByteArray) := if chkC tab = 0 then rowsP tab else []

theorem grown_below {W W' : World} (h : Below W.heap.size W W') : W.grownBy W' none := ⟨h.os, h.tape, h.output, h.size, fun k hk _ => h.block k hk⟩
theorem room_of_none {F : Fence} (hd : F.depth = none) (k : Nat) : F.room k := fun d h => by rw [hd] at h; cases h
theorem RoundIn.anyDepth {F : Fence} (hd : F.depth = none) {m m' : Nat} {P : Program} {l : Nat} {f : FuncId} {tmps : Array Value} {assign body : Code} {w : World} {R : Ending → World → Prop}
    (h : RoundIn F m P l f tmps assign body w R) : RoundIn F m' P l f tmps assign body w R := ⟨h.1, fun c cs _ => h.2 c cs (room_of_none hd _)⟩

set_option maxHeartbeats 1000000 in
theorem Names1_seq (n : Nat) (hn : 4 ≤ n) (tab : List UInt8) (hm : tab.length ≤ 1048576) (n₀ : Nat) (S : TypeId → Bool) (hS : S 25 = true) (hS2 : S 59 = true) (b : Nat) (q : Option Addr) (c : Nat) (hqc : tab.length ≤ c) (w : World) (hbw : w.heap[b]? = some (.cells #[.slice q tab.length c] 25 (0, 0))) (hn0 : n₀ ≤ w.heap.size) (hrow : Row w q (u8s tab)) (hq0 : tab ≠ [] → ∀ a, q = some a → a.block < n₀) :
    SeqO Fence.wide n Try.prog 37 #[.pointer (some ⟨b, 0, none⟩)] encR (KpT n₀ S) (fun ys => ys = namesC tab) (fun pre => ∃ suf, pre ++ suf = namesC tab) (namesC tab).length w := by
  intro l J Jx W hW hJ hJx hY h0
  have hblt : b < w.heap.size := (Array.getElem?_eq_some_iff.1 hbw).1
  have hbW := (hW.block b hblt).trans hbw
  have hszW := hW.size
  have hr0 : Row W q (u8s tab) := hrow.below hW
  obtain ⟨W0, hW0⟩ : ∃ W0, W.alloc (.cells #[.func (.yield l) #[] #[]] 59) = W0 := ⟨_, rfl⟩
  have hs0 : W0.heap.size = W.heap.size + 1 := by rw [← hW0]; simp
  have hb0 : Below W.heap.size W W0 := by rw [← hW0]; exact (Below.refl _ _).alloc (Nat.le_refl _) _
  have hJ0 : J [] W0 := hJ _ _ _ _ h0 (grown_below hb0) (fun r e => by cases e)
  have hbox : W0.heap[W.heap.size]? = some (.cells #[.func (.yield l) #[] #[]] 59 (0, 0)) := by rw [← hW0]; exact heap_alloc_new W _
  have hcb := cell_of_row W0 b 0 _ _ _ ((hb0.block b (by omega)).trans hbW)
  simp at hcb
  have HC := hid (chk_any q c tab W0 hqc hm (hr0.below hb0))
  by_cases hk : chkC tab = 0
  · have hkn : (chkC tab != 0) = false := by rw [hk]; rfl
    have HN : Hid (namesC tab = rowsP tab) := if_pos hk
    have hq := hq0 (by rintro rfl; exact absurd hk (by decide))
    clear hk
    show CallsIn Fence.wide n Try.prog 37 #[.func (.yield l) #[] #[], .pointer (some ⟨b, 0, none⟩)] W _
    refine callsIn_of_wp_marks Try.func37 rfl (show Fence.wide.fn 37 from trivial) ?_ rfl
    simp only [Try.ntmps37, List.size_toArray, List.length_cons, List.length_nil, Nat.reduceAdd, Nat.reduceSub, Array.replicate_succ, Array.replicate_zero, List.push_toArray, List.append_toArray, List.nil_append, List.cons_append]
    gi_wp2_with (first
      | (gi_at_call 20; refine (callsIn_wide.2 HC.out).mono ?_; rintro e w2 ⟨rfl, hb2⟩; have hbx2 := (hb2.block b (by omega)).trans ((hb0.block b (by omega)).trans hbW); have d2 := cell_of_row w2 b 0 _ _ _ hbx2; simp at d2)
      | (gi_at_call 30; refine (callsIn_wide.2 (names_any _ _ _ _)).mono ?_; rintro e w3 ⟨rfl, rfl⟩))
    obtain ⟨W3, hW3⟩ : ∃ W3, w2.alloc (.cells #[.slice q tab.length c] 25) = W3 := ⟨_, rfl⟩
    rw [hW3]
    have hz2 := hb2.size
    have hs3 : W3.heap.size = w2.heap.size + 1 := by rw [← hW3]; simp
    have hb3 : Below w2.heap.size w2 W3 := by rw [← hW3]; exact (Below.refl _ _).alloc (Nat.le_refl _) _
    have hbxi : W3.heap[w2.heap.size]? = some (.cells #[.slice q tab.length c] 25 (0, 0)) := by rw [← hW3]; exact heap_alloc_new w2 _
    have hbox3 : W3.heap[W.heap.size]? = some (.cells #[.func (.yield l) #[] #[]] 59 (0, 0)) := (hb3.block _ (by omega)).trans ((hb2.block _ (by omega)).trans hbox)
    have hJ3 : J [] W3 := hJ _ _ _ _ (hJ _ _ _ _ hJ0 (grown_below hb2) (fun r e => by cases e)) (grown_below hb3) (fun r e => by cases e)
    have hB3 : Below W.heap.size W W3 := hb0.trans ((hb2.mono (by omega)).trans (hb3.mono (by omega)))
    have hseq := names1_seq (n - 1) (by omega) tab hm n₀ S hS w2.heap.size q c hqc W3 hbxi (by omega) (hr0.below hB3) hq
    clear hW3 hb3 hbxi hW0 d2 hcb h0 hJ0 hbx2
    refine wpIn_rangeFunc_O rfl (by omega) (gf := 35) (lb := #[.pointer (some ⟨w2.heap.size, 0, none⟩)]) rfl trivial (enters_of Try.func35 (by kernel_rfl) rfl) hseq
      KpT.trans (fun W l o o' hl h1 h2 h3 => KpT.putObj (by omega) W l o o' hl h1 h2 h3) (Below.refl _ _) (fun _ => rfl)
      (fun pre W' => J pre W' ∧ W'.heap[W.heap.size]? = some (.cells #[.func (.yield l) #[] #[]] 59 (0, 0))) (fun c pre W' => c = .ret ∧ Jx pre W')
      (fun s A B row hs hg hr => ⟨hJ s A B row hs.1 hg (fun r e => ⟨by have := (hr r e).1; omega, (hr r e).2⟩), heap_keptP hg (fun e => by have := (hr _ e.symm).1; omega) hs.2⟩)
      (fun c s A B row hs hg hr => ⟨hs.1, hJx s A B row hs.2 hg (fun r e => ⟨by have := (hr r e).1; omega, (hr r e).2⟩)⟩)
      ⟨hJ3, hbox3⟩
      ?act ?assign ?body ?done ?stop
    case assign =>
      intro l x W K hK
      simp only [encR]
      gi_wp2
      exact hK
    case body =>
      rintro l' pre x W1 ⟨hj, hbx⟩ hlen
      obtain ⟨fn, tmps, assign, body, hy, hR⟩ := hY pre x W1 hj (by rw [HN.out]; exact hlen)
      simp only [encR] at hy
      have hR := RoundIn.anyDepth (m' := n - 1 - 1 - 1) rfl hR
      have hcb1 := cell_of_row W1 W.heap.size 0 _ _ _ hbx
      simp at hcb1
      have HB := hid hbx
      clear hbx hY
      gi_wp2
      refine hR.mono ?_
      rintro e W3 ⟨(⟨rfl, hJ3, hk3⟩ | ⟨rfl, hJx3⟩), hkf⟩
      · gi_wp2
        exact ⟨⟨hkf.size, fun k o hB => hkf.same k o (by omega)⟩, hk3, hJ3, hk3.2.2 _ _ _ _ hS2 HB.out⟩
      · gi_wp2
        exact ⟨⟨hkf.size, fun k o hB => hkf.same k o (by omega)⟩, rfl, hJx3⟩
    case done =>
      rintro xs W1 rfl ⟨hj, _⟩ hD
      gi_wp2
      refine ⟨by simp, .inl ⟨_, _, rfl, run_takeDeferred hD, ?_⟩⟩
      exact ⟨_, results_none rfl _ _ _, ⟨_, rfl⟩, .inl ⟨_, HN.out.symm, hJ.putObj _ hj (by omega) hD rfl⟩⟩
    case stop =>
      rintro c pre W1 hpre ⟨rfl, hj⟩ hD
      gi_wp2
      refine ⟨by simp, .inl ⟨_, _, rfl, run_takeDeferred hD, ?_⟩⟩
      exact ⟨_, results_none rfl _ _ _, ⟨_, rfl⟩, .inr ⟨_, by rw [HN.out]; exact hpre, hJx.putObj _ hj (by omega) hD rfl⟩⟩
  · have HN : Hid (namesC tab = []) := if_neg hk
    have hkn : (chkC tab != 0) = true := by rw [bne_iff_ne]; exact hk
    clear hk hY
    show CallsIn Fence.wide n Try.prog 37 #[.func (.yield l) #[] #[], .pointer (some ⟨b, 0, none⟩)] W _
    refine callsIn_of_wp_marks Try.func37 rfl (show Fence.wide.fn 37 from trivial) ?_ rfl
    simp only [Try.ntmps37, List.size_toArray, List.length_cons, List.length_nil, Nat.reduceAdd, Nat.reduceSub, Array.replicate_succ, Array.replicate_zero, List.push_toArray, List.append_toArray, List.nil_append, List.cons_append]
    gi_wp2_with (gi_at_call 20; refine (callsIn_wide.2 HC.out).mono ?_; rintro e w2 ⟨rfl, hb2⟩)
    exact ⟨_, results_none rfl _ _ _, ⟨_, rfl⟩, .inl ⟨_, HN.out.symm, hJ _ _ _ _ hJ0 (grown_below hb2) (fun r e => by cases e)⟩⟩
end Go.Proofs.Ytaophcndkhnbeaa
