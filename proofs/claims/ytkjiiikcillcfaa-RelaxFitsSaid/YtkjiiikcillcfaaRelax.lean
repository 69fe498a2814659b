/-
  The walk of relax.Relax.
-/
import Derived.Test.YtkjiiikcillcfaaIter2
namespace Go.Proofs.Ytkjiiikcillcfaa
open Go.RowKit
attribute [local go_sem] Oper.semAt_some wide_fn wide_depth

def lastL (pre : List (Value × List Bool)) : List Bool := (pre.map (·.2)).getLastD []
theorem lastL_snoc (pre : List (Value × List Bool)) (y : Value × List Bool) : lastL (pre ++ [y]) = y.2 := by simp [lastL, List.getLastD_eq_getLast?]

theorem VB.putObj {xs : List It} {pre : List (Value × List Bool)} {hs : Nat} {y : Value × List Bool} {W : World} {l : Nat} {r : Loop} (h : VB xs pre hs y W) (hl : W.heap[l]? = some (.loop r)) (o : Obj) : VB xs pre hs y (W.putObj l o) := by
  obtain ⟨hsuf, p, c, e, hn, hr, ha⟩ := h
  exact ⟨hsuf, p, c, e, hn, hr.putObj hl o, fun a hp => by simpa using ha a hp⟩

/-- What Relax's loop holds between two rounds. -/
def RelI (w : World) (b : Nat) (pre : List (Value × List Bool)) (T : Nat → Prop) (hs : Nat) (W : World) : Prop :=
  ∃ q d, W.cell? ⟨b, 0, none⟩ = some (.slice q (lastL pre).length d) ∧ W.cell? ⟨b + 1, 0, none⟩ = some (i64 ((pre.length : Int) - 1)) ∧ W.frozen? ⟨b, 0, none⟩ = false ∧ W.frozen? ⟨b + 1, 0, none⟩ = false ∧
    Row W q (bools (lastL pre)) ∧ (∀ a, q = some a → b + 1 < a.block ∧ a.block < W.heap.size) ∧ Below w.heap.size w W ∧ b + 1 < hs ∧ ¬ T b ∧ ¬ T (b + 1) ∧ b + 1 < W.heap.size

theorem RelI.later {w : World} {b : Nat} {pre : List (Value × List Bool)} {T : Nat → Prop} {hs : Nat} {W W' : World} (_ : w.heap.size ≤ b) (h : RelI w b pre T hs W) (hs' : StB W W') : RelI w b pre T hs W' := by
  obtain ⟨q, d, h1, h2, h3, h4, h5, h6, h7, h8, h9, h10, h11⟩ := h
  have hsz := hs'.size
  refine ⟨q, d, (hs'.cell (p := ⟨b, 0, none⟩) (by simp; omega)).trans h1, (hs'.cell (p := ⟨b + 1, 0, none⟩) h11).trans h2, (hs'.frozen (p := ⟨b, 0, none⟩) (by simp; omega)).trans h3, (hs'.frozen (p := ⟨b + 1, 0, none⟩) h11).trans h4, h5.below hs', fun a ha => ?_, h7.trans (hs'.mono h7.size), h8, h9, h10, by omega⟩
  have := h6 a ha
  omega
theorem RelI.putObj {w : World} {b : Nat} {pre : List (Value × List Bool)} {T : Nat → Prop} {hs : Nat} {W : World} {l : Nat} {r : Loop} (h : RelI w b pre T hs W) (hl : W.heap[l]? = some (.loop r)) (hwl : w.heap.size ≤ l) (o : Obj) : RelI w b pre T hs (W.putObj l o) := by
  obtain ⟨q, d, h1, h2, h3, h4, h5, h6, h7, h8, h9, h10, h11⟩ := h
  have c1 := cell_putObj h1 hl o
  have c2 := cell_putObj h2 hl o
  exact ⟨q, d, c1.1, c2.1, c1.2.trans h3, c2.2.trans h4, h5.putObj hl o, by simpa using h6, Below.putObjB h7 h7.size hwl o, h8, h9, h10, by simpa using h11⟩

set_option maxHeartbeats 1000000 in
theorem Relax_any (p : Option Addr) (c : Nat) (xs : List It) (w : World) (hm : xs.length ≤ 1000000) (hp : p = none → c = 0) (hrow : Row w p (itCells xs)) :
    Calls Try.prog 13 #[.slice p xs.length c] w (RelaxPost xs w) := by
  have HCK := hid (check_any p c xs w hm hrow)
  rcases Classical.em (checkP xs = 0) with hck | hck
  · rw [hck] at HCK
    have HCC := hid hck
    have HRO := hid (fun w1 (hb : Below w.heap.size w w1) => Rounds_any p c xs w1 hm (hrow.below hb) hp)
    have hpos := hid (rounds_pos hck)
    clear hck
    refine callsIn_wide.1 (?_ : CallsIn Fence.wide 5 Try.prog 13 #[.slice p xs.length c] w (RelaxPost xs w))
    refine callsIn_of_wp_marks Try.func13 rfl (show Fence.wide.fn 13 from trivial) ?_ rfl
    simp only [Try.ntmps13, List.size_toArray, List.length_cons, List.length_nil, Nat.reduceAdd, Nat.reduceSub, Array.replicate_succ, Array.replicate_zero, List.push_toArray, List.append_toArray, List.nil_append, List.cons_append]
    gi_wp2_with (first
      | (gi_at_call 19; refine (callsIn_wide.2 HCK.out).mono ?_; rintro e w1 ⟨rfl, hb1⟩; have hsz1 := hb1.size)
      | (gi_at_call 31; refine (callsIn_wide.2 (HRO.out _ ((hb1.alloc hsz1 _).alloc (by simp; omega) _))).mono ?_; rintro e w2 ⟨q, d, rfl, hbs, hcb, hrq, hqb, hb2⟩))
    have hbw2 : Below w.heap.size w w2 := ((hb1.alloc hsz1 _).alloc (by simp; omega) _).trans (hb2.mono (by simp; omega))
    obtain ⟨b, hb⟩ : ∃ b, b = w1.heap.size := ⟨_, rfl⟩
    have hc6 : w2.cell? ⟨b, 0, none⟩ = some (.slice none 0 0) ∧ w2.frozen? ⟨b, 0, none⟩ = false := by
      subst hb
      have hh : w2.heap[w1.heap.size]? = some (.cells #[.slice none 0 0] 23 (0, 0)) := (hb2.block _ (by simp; omega)).trans ((Below.heap_alloc _ _ _ (by simp)).trans (heap_alloc_new w1 _))
      exact ⟨cell_of_row w2 _ 0 _ _ _ hh, frozen_of_row w2 _ 0 _ _ hh⟩
    have hc7 : w2.cell? ⟨b + 1, 0, none⟩ = some (i64 (-1)) ∧ w2.frozen? ⟨b + 1, 0, none⟩ = false := by
      subst hb
      have hn := heap_alloc_new (w1.alloc (.cells #[.slice none 0 0] 23)) (.cells #[.int .i64 (-1)] 3 (0, 0))
      rw [World.size_alloc] at hn
      have hh : w2.heap[w1.heap.size + 1]? = some (.cells #[.int .i64 (-1)] 3 (0, 0)) := (hb2.block _ (by simp)).trans hn
      exact ⟨cell_of_row w2 _ 0 _ _ _ hh, frozen_of_row w2 _ 0 _ _ hh⟩
    simp only [World.size_alloc] at hbs hcb hqb
    have hwb : w.heap.size ≤ w1.heap.size := hsz1
    subst hb
    have hseq := rounds1_seq 4 (by omega) xs hm (w1.heap.size + 1 + 1) q d w2 hbs hcb hrq (fun a ha => (hqb a ha).2)
    refine wpIn_rangeFunc_V rfl (by omega) (gf := 41) (lb := #[.pointer (some ⟨w1.heap.size + 1 + 1, 0, none⟩)]) rfl trivial (enters_of Try.func41 (by kernel_rfl) rfl) hseq (Below.refl _ _) (fun _ => rfl)
      (by rintro k (rfl | ⟨a, ha, rfl⟩) <;> first | exact hbs | exact (hqb a ha).2)
      (fun W W' h k o hk _ _ => (h.block k (Array.getElem?_eq_some_iff.1 hk).1).trans hk)
      (fun pre hs x W l r o h hl => h.putObj hl o)
      (RelI w w1.heap.size) (fun _ _ _ => False) (fun pre T hs W W' h hst => h.later hwb hst) (fun _ _ _ _ h _ => h)
      (fun pre T hs W r o h hl => h.putObj hl (by omega) o) (fun _ _ _ _ _ h _ => h) ?start
      (fun x => { tmps := #[Value.slice p xs.length c, undef, Value.slice none 0 0, Value.int IntKind.i64 0, Value.int IntKind.i64 0, Value.int IntKind.i64 0, Value.pointer (some { block := w1.heap.size, off := 0 }), Value.pointer (some { block := w1.heap.size + 1, off := 0 }), x.1, Value.slice p xs.length c, Value.int IntKind.i64 0, Value.int IntKind.i64 0, Value.bool false, undef, Value.slice p xs.length c, Value.func (Fn.func 41) #[] #[Value.pointer (some { block := w1.heap.size + 1 + 1, off := 0 })], x.1, undef, undef, undef, undef, undef], defers := [] })
      ?assign ?body ?done ?stop
    case start =>
      intro r
      have hbn : Below w2.heap.size w2 ((w2.alloc (.deferred (some []))).alloc (.loop r)) := ((Below.refl _ w2).alloc (Nat.le_refl _) _).alloc (by simp) _
      have h1 : RelI w w1.heap.size [] (fun k => k = w1.heap.size + 1 + 1 ∨ ∃ a, q = some a ∧ a.block = k) (w2.heap.size + 2) w2 := by
        refine ⟨none, 0, hc6.1, hc7.1, hc6.2, hc7.2, Row.nil _ _, by simp, hbw2, by omega, ?_, ?_, by omega⟩
        · rintro (h | ⟨a, ha, h⟩)
          · omega
          · have := hqb a ha; omega
        · rintro (h | ⟨a, ha, h⟩)
          · omega
          · have := hqb a ha; omega
      exact h1.later hwb hbn
    case assign =>
      intro l x W K hK
      gi_wp2
      exact hK
    case body =>
      rintro l pre T hs x W ⟨q6, d6, h1, h2, h3, h4, h5, h6, h7, h8, h9, h10, h11⟩ ⟨⟨suf, hsuf⟩, xp, xc, hx1, hx2, hx3, hx4⟩ hhs hsz hT
      have hlen : pre.length ≤ xs.length := by
        have e1 := congrArg List.length hsuf
        have e2 := hpos.out.2
        simp only [List.length_append, List.length_map, List.length_singleton] at e1
        omega
      clear hsuf
      obtain ⟨x1, x2⟩ := x
      dsimp only at hx1 hx3
      subst hx1
      have hlt6 : w1.heap.size < W.heap.size := by omega
      gi_wp2
      have hn6 : ¬ more T hs W w1.heap.size := by rintro (h | h); exact h9 h; omega
      have hn7 : ¬ more T hs W (w1.heap.size + 1) := by rintro (h | h); exact h10 h; omega
      refine ⟨(KeepsT.setCell W ⟨w1.heap.size, 0, none⟩ _ ?_).trans (KeepsT.setCell _ ⟨w1.heap.size + 1, 0, none⟩ _ ?_), xp, xc, ?_, ?_, ?_, ?_, ?_, ?_, ?_, ?_, hn6, hn7, ?_⟩
      · rintro (h | h | h)
        · exact hn6 h
        · simp at h; omega
        · simp at h; omega
      · rintro (h | h | h)
        · exact hn7 h
        · simp at h; omega
        · simp at h; omega
      · rw [World.cell?_setCell_other _ _ _ _ (by intro e; have := congrArg Addr.block e; simp at this), World.cell?_setCell_same _ _ _ h1, lastL_snoc]
      · have hc := World.cell?_setCell_other (w := W) ⟨w1.heap.size, 0, none⟩ ⟨w1.heap.size + 1, 0, none⟩ (.slice xp x2.length xc) (by intro e; have := congrArg Addr.block e; simp at this)
        rw [World.cell?_setCell_same _ _ _ (hc.trans h2)]
        simp only [List.length_append, List.length_singleton]
        rw [show ((pre.length + 1 : Nat) : Int) - 1 = pre.length by omega]
      · rw [World.frozen?_setCell, World.frozen?_setCell]; exact h3
      · rw [World.frozen?_setCell, World.frozen?_setCell]; exact h4
      · rw [lastL_snoc]
        exact (hx3.set_other _ _ (fun a ha => by have := hx4 a ha; simp; omega)).set_other _ _ (fun a ha => by have := hx4 a ha; simp; omega)
      · intro a ha
        have := hx4 a ha
        simp; omega
      · exact (h7.setCell (p := ⟨w1.heap.size, 0, none⟩) hwb _).setCell (p := ⟨w1.heap.size + 1, 0, none⟩) (by simp; omega) _
      · simp; omega
      · simp; omega
    case done =>
      rintro ys T hs W hS ⟨q6, d6, h1, h2, h3, h4, h5, h6, h7, h8, h9, h10, h11⟩ hD
      gi_wp2
      gi_region
      gi_wp2
      have hD' : W.drew.heap[w2.heap.size]? = some (.deferred (some [])) := hD
      have hg := grownBy_putObj' W.drew w2.heap.size (.deferred none)
      have hgo : ∀ r, some w2.heap.size = some r → ∃ o : Obj, W.drew.heap[r]? = some o ∧ o.isCells = false := fun r e => by cases e; exact ⟨_, hD', rfl⟩
      refine ⟨by simp, .inl ⟨_, _, rfl, run_takeDeferred hD', ?_⟩⟩
      refine ⟨_, results_tmp3 rfl _ _ _, q6, d6, ?_, ?_, ?_⟩
      · have hl : ys.length = (roundsP xs).length := by rw [← hS]; simp
        have hr : relaxRes xs = lastL ys := by simp only [relaxRes, lastL, hS]
        show Ending.returned (.tuple #[.slice q6 (lastL ys).length d6, i64 ((ys.length : Int) - 1), i64 0]) = _
        rw [hr, HCC.out, relaxN, ← hl, show ((ys.length : Int) - 1) = ((ys.length - 1 : Nat) : Int) by have := hpos.out.1; omega]
      · rw [show relaxRes xs = lastL ys by simp only [relaxRes, lastL, hS]]
        intro hne
        obtain ⟨b, o, hq, hc⟩ := h5 hne
        exact ⟨b, o, hq, fun i hi => cell_kept (W := W.drew) (hc i hi) hg hgo⟩
      · exact h7.drew.grown hg h7.size (fun k e => by cases e; have := hbw2.size; omega)
    case stop => rintro c pre W _ h _; exact h.elim
  · have hR : roundsP xs = [] := by simp [roundsP, hck]
    have HN : Hid (relaxN xs = 0) := by simp [Hid, relaxN, hR]
    have HR : Hid (relaxRes xs = []) := by simp [Hid, relaxRes, hR]
    obtain ⟨E, hE⟩ : ∃ E, E = checkP xs := ⟨_, rfl⟩
    rw [← hE] at HCK hck
    have HE := hid hE
    have hne : (E != 0) = true := by simpa using hck
    clear hE hck hR
    go_enter Try.func13, Try.ntmps13
    go_wp2_with (go_at_call 19; refine HCK.out.mono ?_; rintro e w1 ⟨rfl, hb1⟩)
    go_ret3
    exact ⟨none, 0, by rw [HN.out, HR.out, ← HE.out]; rfl, by rw [HR.out]; exact Row.nil _ _, hb1⟩
end Go.Proofs.Ytkjiiikcillcfaa
