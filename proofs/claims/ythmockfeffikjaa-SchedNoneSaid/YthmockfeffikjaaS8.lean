/-
  some.
-/
import Derived.Test.YthmockfeffikjaaS7
import Derived.LoopNIn
namespace Go.Proofs.Ythmockfeffikjaa
open Go.RowKit
attribute [local go_sem] Oper.semAt_some
attribute [local go_sem] wide_fnM wide_depthM
variable {W W' : World} {base L : Nat} {S : SL} {fw fc : Nat → Prop}

/-- What some holds between two rounds, and behind its return. -/
def SoI (W : World) (pre : List Int) (_ : Nat → Prop) (_ : Nat) (X : World) : Prop := pre = [] ∧ Below W.heap.size W X ∧ X.heap[W.heap.size]? = some (.cells #[.bool false] 4 (0, 0))
def SoX (W : World) (l : List Int) (c : Code) (_ : List Int) (X : World) : Prop := c = .ret ∧ l ≠ [] ∧ Below W.heap.size W X ∧ X.heap[W.heap.size]? = some (.cells #[.bool true] 4 (0, 0))
theorem put_other {X : World} {l b : Nat} {r : Loop} {cs : Array Value} {t : TypeId} {q : Nat × Nat} (hl : X.heap[l]? = some (.loop r)) (h : X.heap[b]? = some (.cells cs t q)) (o : Obj) : (X.putObj l o).heap[b]? = some (.cells cs t q) :=
  (World.putObj_heap_other (fun e => by subst e; rw [hl] at h; cases h)).trans h

set_option maxRecDepth 100000 in
set_option maxHeartbeats 2000000 in
theorem some_any (H : LM W base L S fc fw) : Calls Try.prog 48 #[mi L] W fun e w' => e = .returned (.bool (!S.enab.isEmpty)) ∧ Below W.heap.size W w' := by
  have hb64 := H.bnd
  have hel : S.enab.length ≤ 64 := Nat.le_trans (enab_le _) hb64
  have HE := hid (fun w' (hb : Below W.heap.size W w') => enab_any (H.below hb))
  clear H
  have hB0 : Hid (Below W.heap.size W (W.alloc (.cells #[.bool false] 4))) := (Below.refl _ _).alloc (Nat.le_refl _) _
  refine callsIn_wide.1 (?_ : CallsIn Fence.wide 5 Try.prog 48 #[mi L] W _)
  refine callsIn_of_wp_marks Try.func48 rfl (show Fence.wide.fn 48 from trivial) ?_ rfl
  simp only [Try.ntmps48, List.size_toArray, List.length_cons, List.length_nil, Nat.reduceAdd, Nat.reduceSub, Array.replicate_succ, Array.replicate_zero, List.push_toArray, List.append_toArray, List.nil_append, List.cons_append]
  unfold EnTell at HE
  gi_wp2_with (gi_at_call 19; refine (callsIn_wide.2 (HE.out _ hB0.out)).mono ?_; rintro e w2 ⟨rfl, v, he⟩; have HEN := hid he; clear he)
  have hz2 := HEN.out.b.size
  rw [World.size_alloc] at hz2
  have hrb : Hid (w2.heap[W.heap.size]? = some (.cells #[.bool false] 4 (0, 0))) := (HEN.out.b.block _ (by simp)).trans (heap_alloc_new W _)
  have hBw : Hid (Below W.heap.size W w2) := hB0.out.trans (HEN.out.b.mono (by simp))
  have hh := HEN.out.h
  have ho := HEN.out.o
  rw [World.size_alloc] at hh ho
  have hz3 := (Array.getElem?_eq_some_iff.1 hh).1
  have hseq := enab1_seq (l := S.enab) (v := v) 4 (by omega) hh ho (by omega)
  have hvl : ∀ j, v.ownBlock = some j → j < w2.heap.size := fun j hj => own_lt ho j hj
  refine wpIn_rangeFunc_V rfl (by omega) (gf := 40) (lb := #[.pointer (some ⟨W.heap.size + 1, 0, none⟩)]) rfl trivial (enters_of Try.func40 (by kernel_rfl) rfl) hseq (Below.refl _ _) (fun _ => rfl)
    (fun k hk => by rcases hk with h | h; omega; exact hvl k h)
    (fun W W' h k o hk _ _ => (h.block k (Array.getElem?_eq_some_iff.1 hk).1).trans hk)
    (fun _ _ _ _ _ _ _ h _ => h)
    (SoI W) (SoX W S.enab) (fun pre T hs X X' h hst => ⟨h.1, h.2.1.trans (hst.mono h.2.1.size), (hst.block _ (Array.getElem?_eq_some_iff.1 h.2.2).1).trans h.2.2⟩)
    (fun c pre X X' h hst => ⟨h.1, h.2.1, h.2.2.1.trans (hst.mono h.2.2.1.size), (hst.block _ (Array.getElem?_eq_some_iff.1 h.2.2.2).1).trans h.2.2.2⟩)
    (fun pre T hs X r o h hl => ⟨h.1, Below.putObjB h.2.1 h.2.1.size (by omega) o, put_other hl h.2.2 o⟩)
    (fun c pre X r o h hl => ⟨h.1, h.2.1, Below.putObjB h.2.2.1 h.2.2.1.size (by omega) o, put_other hl h.2.2.2 o⟩)
    ?start ?acta ?assigna ?bodya ?donea ?stopa
  case start =>
    intro r
    have hb3 : Below w2.heap.size w2 ((w2.alloc (.deferred (some []))).alloc (.loop r)) := ((Below.refl _ _).alloc (Nat.le_refl _) _).alloc (by simp) _
    exact ⟨rfl, hBw.out.trans (hb3.mono (by omega)), (hb3.block _ (by omega)).trans hrb.out⟩
  case assigna =>
    intro l x X K hK
    gi_wp2
    exact hK
  case bodya =>
    rintro l pre T hs x X ⟨rfl, hb, hc⟩ ⟨suf, hsuf⟩ hhs hsz hT
    have HB := hid hb
    have HC := hid hc
    have c0 : X.cell? ⟨W.heap.size, 0, none⟩ = some (.bool false) := cell_of_row _ _ 0 _ _ _ hc
    have f0 : X.frozen? ⟨W.heap.size, 0, none⟩ = false := frozen_of_row _ _ _ _ _ hc
    have HNE : Hid (S.enab ≠ []) := by rw [← hsuf]; simp [Hid]
    have HZ := hid (And.intro hsz hz2)
    clear hb hc hsuf hseq hvl HE
    gi_wp2
    refine ⟨KeepsT.setCell X _ _ ?_, rfl, HNE.out, HB.out.setCell (Nat.le_refl _) _, heap_setCell_same X W.heap.size 0 _ _ _ HC.out⟩
    rintro (h | h)
    · have h' : W.heap.size = w2.heap.size := h
      omega
    · have h' : W.heap.size = w2.heap.size + 1 := h
      omega
  case donea =>
    rintro xs T hs X rfl ⟨hpre, hb, hc⟩ hD
    have HB := hid hb
    have HC := hid hc
    have HD := hid hD
    have c0 : X.cell? ⟨W.heap.size, 0, none⟩ = some (.bool false) := cell_of_row _ _ 0 _ _ _ hc
    have f0 : X.frozen? ⟨W.heap.size, 0, none⟩ = false := frozen_of_row _ _ _ _ _ hc
    have HV : Hid ((!S.enab.isEmpty) = false) := by rw [Hid, hpre]; rfl
    clear hb hc hD hpre hseq hvl HE
    gi_wp2
    obtain ⟨WS, hWS⟩ : ∃ x, x = X.setCell ⟨W.heap.size, 0, none⟩ (.bool false) := ⟨_, rfl⟩
    rw [← hWS]
    have dB : WS.heap[w2.heap.size]? = some (.deferred (some [])) := by rw [hWS]; exact (Below.heap_setCell _ _ _ _ (show w2.heap.size ≠ W.heap.size by omega)).trans HD.out
    have cS : WS.cell? ⟨W.heap.size, 0, none⟩ = some (.bool false) := by rw [hWS]; exact World.cell?_setCell_same _ _ _ c0
    have cS2 := cell_kept cS (grownBy_putObj' WS w2.heap.size (.deferred none)) (fun r e => by cases e; exact ⟨_, dB, rfl⟩)
    have bS : Below W.heap.size W WS := by rw [hWS]; exact HB.out.setCell (Nat.le_refl _) _
    refine ⟨by simp, .inl ⟨_, _, rfl, run_takeDeferred dB, ?_⟩⟩
    exact ⟨.bool false, by simp [results, Try.results48, go_sem, cS2], by rw [HV.out], Below.putObjB bS bS.size (l := w2.heap.size) (by omega) (.deferred none)⟩
  case stopa =>
    rintro c pre X _ ⟨rfl, hne, hb, hc⟩ hD
    have HB := hid hb
    have HC := hid hc
    have HD := hid hD
    have HV : Hid ((!S.enab.isEmpty) = true) := by
      cases h : S.enab with
      | nil => exact absurd h hne
      | cons a l => rw [Hid]; rfl
    have c0 : X.cell? ⟨W.heap.size, 0, none⟩ = some (.bool true) := cell_of_row _ _ 0 _ _ _ hc
    clear hb hc hD hne hseq hvl HE
    gi_wp2
    have cS2 := cell_kept c0 (grownBy_putObj' X w2.heap.size (.deferred none)) (fun r e => by cases e; exact ⟨_, HD.out, rfl⟩)
    refine ⟨by simp, .inl ⟨_, _, rfl, run_takeDeferred HD.out, ?_⟩⟩
    exact ⟨.bool true, by simp [results, Try.results48, go_sem, cS2], by rw [HV.out], Below.putObjB HB.out HB.out.size (l := w2.heap.size) (by omega) (.deferred none)⟩
end Go.Proofs.Ythmockfeffikjaa
