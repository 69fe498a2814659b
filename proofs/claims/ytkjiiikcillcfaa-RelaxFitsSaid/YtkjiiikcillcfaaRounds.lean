/-
  The walk of the law's own rounds: what Rounds goes through, gathered.
-/
import Derived.Test.YtkjiiikcillcfaaClone
namespace Go.Proofs.Ytkjiiikcillcfaa
open Go.RowKit
attribute [local go_sem] Oper.semAt_some wide_fn wide_depth

theorem BoolsAt.keptO {W W' : World} {u : Value} {y : Value × List Bool} {l : Nat} {o : Obj} (h : BoolsAt W u y) (hg : W.grownBy W' (some l)) (hl : W.heap[l]? = some o) (ho : o.isCells = false) : BoolsAt W' u y := by
  obtain ⟨p, c, e, hr, ha⟩ := h
  exact ⟨p, c, e, hr.keptO hg hl ho, fun a hp => ⟨Nat.lt_of_lt_of_le (ha a hp).1 hg.size, (ha a hp).2⟩⟩

/-- What has been gathered behind some rounds. -/
def RndI (w : World) (b : Nat) (pre : List (Value × List Bool)) (T : Nat → Prop) (hs : Nat) (W : World) : Prop :=
  ∃ (v : Value) (ys : List (Value × List Bool)), W.cell? ⟨b, 0, none⟩ = some v ∧ W.frozen? ⟨b, 0, none⟩ = false ∧ W.ownsRow w.heap.size 23 1 v ys.length (ys.map (·.1)) ∧ ys.map (·.2) = pre.map (·.2) ∧
    (∀ y ∈ ys, BoolsAt W v y ∧ ∀ a n c, y.1 = .slice (some a) n c → b + 3 ≤ a.block) ∧ Below w.heap.size w W ∧ b < hs ∧ ¬ T b ∧ (∀ g, v.ownBlock = some g → b + 3 ≤ g ∧ g < hs ∧ ¬ T g) ∧ b < W.heap.size ∧ (∀ k, T k → k < hs) ∧ hs ≤ W.heap.size

theorem RndI.later {w : World} {b : Nat} {pre : List (Value × List Bool)} {T : Nat → Prop} {hs : Nat} {W W' : World} (h : RndI w b pre T hs W) (hs' : StB W W') : RndI w b pre T hs W' := by
  obtain ⟨v, ys, h1, h2, h3, h4, h5, h6, h7, h8, h9, h10, h11, h12⟩ := h
  have hsz := hs'.size
  exact ⟨v, ys, (hs'.cell (p := ⟨b, 0, none⟩) h10).trans h1, (hs'.frozen (p := ⟨b, 0, none⟩) h10).trans h2, own_below h3 hs', h4, fun y hy => ⟨(h5 y hy).1.below hs', (h5 y hy).2⟩, h6.trans (hs'.mono h6.size), h7, h8, h9, by omega, h11, by omega⟩
theorem RndI.putObj {w : World} {b : Nat} {pre : List (Value × List Bool)} {T : Nat → Prop} {hs : Nat} {W : World} {l : Nat} {r : Loop} (h : RndI w b pre T hs W) (hl : W.heap[l]? = some (.loop r)) (hwl : w.heap.size ≤ l) (o : Obj) : RndI w b pre T hs (W.putObj l o) := by
  obtain ⟨v, ys, h1, h2, h3, h4, h5, h6, h7, h8, h9, h10, h11, h12⟩ := h
  have c1 := cell_putObj h1 hl o
  exact ⟨v, ys, c1.1, c1.2.trans h2, own_keptO h3 (grownBy_putObj' W l o) hl rfl, h4, fun y hy => ⟨(h5 y hy).1.keptO (grownBy_putObj' W l o) hl rfl, (h5 y hy).2⟩, Below.putObjB h6 h6.size hwl o, h7, h8, h9, by simpa using h10, h11, by simpa using h12⟩

theorem BoolsAt.set {W : World} {u : Value} {y : Value × List Bool} (h : BoolsAt W u y) (b : Nat) (x : Value) (hne : ∀ a n c, y.1 = .slice (some a) n c → b + 3 ≤ a.block) : BoolsAt (W.setCell ⟨b, 0, none⟩ x) u y := by
  obtain ⟨p, c, e, hr, ha⟩ := h
  exact ⟨p, c, e, hr.set_other _ _ (fun a hp => by subst hp; have := hne _ _ _ e; simp; omega), fun a hp => ⟨by simpa using (ha a hp).1, (ha a hp).2⟩⟩

theorem runs_lens (xs : List It) : ∀ (f : Nat) (ls : List Bool), ∀ l ∈ runs xs f ls, l.length = xs.length
  | 0, _, l, h => by simp [runs] at h
  | f + 1, ls, l, h => by
    simp only [runs, List.mem_cons] at h
    rcases h with rfl | h
    · exact roundP_len _ _
    · split at h
      · simp at h
      · exact runs_lens xs f _ l h
theorem rounds_lens (xs : List It) (l : List Bool) (h : l ∈ roundsP xs) : l.length = xs.length := by
  unfold roundsP at h
  split at h
  · exact runs_lens xs _ _ l h
  · simp at h

theorem rnd_step {w W : World} {b : Nat} {pre : List (Value × List Bool)} {T : Nat → Prop} {hs : Nat} {v : Value} {ys : List (Value × List Bool)} (h3 : W.ownsRow w.heap.size 23 1 v ys.length (ys.map (·.1))) (h4 : ys.map (·.2) = pre.map (·.2))
    (h5 : ∀ y ∈ ys, BoolsAt W v y ∧ ∀ a n c, y.1 = .slice (some a) n c → b + 3 ≤ a.block) (h6 : Below w.heap.size w W) (h7 : b < hs) (h8 : ¬ T b) (h9 : ∀ g, v.ownBlock = some g → b + 3 ≤ g ∧ g < hs ∧ ¬ T g) (h10 : b < W.heap.size)
    (h11 : ∀ k, T k → k < hs) (h12 : hs ≤ W.heap.size) (h1 : W.cell? ⟨b, 0, none⟩ = some v) (h2 : W.frozen? ⟨b, 0, none⟩ = false) (hhs : b + 3 ≤ hs) (hwb : w.heap.size ≤ b) {xv cl v4 : Value} {x2 : List Bool} {w3 w4 : World} (ho3 : w3.ownsRow W.heap.size 4 1 cl x2.length (bools x2)) (hb3 : Below W.heap.size W.drew w3)
    (ho4 : w4.ownsRow w.heap.size 23 1 v4 (ys.length + 1) (ys.map (·.1) ++ [cl])) (hg4 : (w3.alloc (.cells #[cl] 23)).grownBy w4 v.ownBlock) (hs4 : Stayed (w3.alloc (.cells #[cl] 23)) v v4) :
    KeepsT (fun k => more T hs W k ∨ k = b + 1 ∨ k = b + 1 + 1) W (w4.setCell ⟨b, 0, none⟩ v4) ∧ RndI w b (pre ++ [(xv, x2)]) (more T hs W) (w4.setCell ⟨b, 0, none⟩ v4).heap.size (w4.setCell ⟨b, 0, none⟩ v4) := by
  have hz3 : W.heap.size ≤ w3.heap.size := hb3.size
  have hz4 := hg4.size
  simp only [World.size_alloc] at hz4
  have hba : Below W.heap.size W (w3.alloc (.cells #[cl] 23)) := (((Below.refl _ W).drew).trans hb3).alloc hz3 _
  have hnb : ¬ more T hs W b := by rintro (h | h); exact h8 h; omega
  have hvn : ∀ g, v.ownBlock = some g → ¬ more T hs W g := by
    rintro g hg (h | h)
    · exact (h9 g hg).2.2 h
    · have := h9 g hg; omega
  have hbv : some b ≠ v.ownBlock := fun e => by have := h9 b e.symm; omega
  have hcb : w4.cell? ⟨b, 0, none⟩ = some v := hg4.cell ((hba.cell (p := ⟨b, 0, none⟩) h10).trans h1) hbv
  have hfb : w4.frozen? ⟨b, 0, none⟩ = false := (grown_frozen hg4 ⟨b, 0, none⟩ (by simp; omega) hbv).trans ((hba.frozen (p := ⟨b, 0, none⟩) h10).trans h2)
  have hvl : ∀ g, v.ownBlock = some g → g < W.heap.size := fun g hg => by have := h9 g hg; omega
  have hv4 : ∀ g, v4.ownBlock = some g → b + 3 ≤ g ∧ g < w4.heap.size ∧ ¬ more T hs W g := fun g hg => by
    refine ⟨?_, own_lt ho4 g hg, ?_⟩
    · rcases hs4 g hg with h | h
      · exact (h9 g h).1
      · simp at h; omega
    · rcases hs4 g hg with h | h
      · exact hvn g h
      · rintro (h' | h')
        · have := h11 g h'; simp at h; omega
        · simp at h; omega
  refine ⟨?_, ?_⟩
  · refine ((KeepsT.below hba).trans (KeepsT.grown hg4 ?_)).trans (KeepsT.setCell w4 _ _ ?_)
    · rintro k hk (h | h | h)
      · exact hvn k hk h
      · have := h9 k hk; omega
      · have := h9 k hk; omega
    · rintro (h | h | h)
      · exact hnb h
      · simp at h
      · simp at h; omega
  · have ho5 : w4.ownsRow w.heap.size 23 1 v4 (ys ++ [(cl, x2)]).length ((ys ++ [(cl, x2)]).map (·.1)) := by simpa using ho4
    have hb6 : Below w.heap.size w w4 := (h6.trans (hba.mono h6.size)).grown hg4 (by simp; omega) (fun g hg => by have := h9 g hg; omega)
    refine ⟨v4, ys ++ [(cl, x2)], World.cell?_setCell_same _ _ _ hcb, by rw [World.frozen?_setCell]; exact hfb, ?_, by simp [h4], ?_, hb6.setCell (p := ⟨b, 0, none⟩) hwb _, by simp; omega, hnb, fun g hg => ?_, by simp; omega, ?_, Nat.le_refl _⟩
    · exact own_setO ho5 _ _ (fun g hg => by have := hv4 g hg; simp; omega)
    · intro y hy
      rcases List.mem_append.1 hy with hy | hy
      · exact ⟨((h5 y hy).1.app hba hg4 hs4).set b v4 (h5 y hy).2, (h5 y hy).2⟩
      · rw [List.mem_singleton.1 hy]
        obtain ⟨cp, cc, rfl, _, _, hcr, _, hge⟩ := own_row ho3
        have hne : ∀ a n c, (Value.slice cp x2.length cc, x2).1 = .slice (some a) n c → b + 3 ≤ a.block := fun a n c e => by
          simp only [Value.slice.injEq] at e
          have := hge a e.1; omega
        have hm : BoolsAt w3 v (.slice cp x2.length cc, x2) := BoolsAt.made ho3 rfl hvl
        exact ⟨(hm.app ((Below.refl _ _).alloc (Nat.le_refl _) _) hg4 hs4).set b v4 hne, hne⟩
    · have := hv4 g hg; exact ⟨this.1, by simpa using this.2.1, this.2.2⟩
    · rintro k (h | h)
      · have := h11 k h; simp; omega
      · simp; omega

theorem RndI.up {w : World} {b : Nat} {pre : List (Value × List Bool)} {T : Nat → Prop} {hs hs' : Nat} {W : World} (h : RndI w b pre T hs W) (h1 : hs ≤ hs') (h2 : hs' ≤ W.heap.size) : RndI w b pre T hs' W := by
  obtain ⟨v, ys, g1, g2, g3, g4, g5, g6, g7, g8, g9, g10, g11, g12⟩ := h
  exact ⟨v, ys, g1, g2, g3, g4, g5, g6, by omega, g8, fun g hg => by have := g9 g hg; exact ⟨this.1, by omega, this.2.2⟩, g10, fun k hk => by have := g11 k hk; omega, h2⟩

set_option maxHeartbeats 1000000 in
theorem lrounds_any (p : Option Addr) (c : Nat) (xs : List It) (w : World) (hm : xs.length ≤ 1000000) (hp : p = none → c = 0) (hrow : Row w p (itCells xs)) :
    Calls Try.prog 23 #[.slice p xs.length c] w fun e w' => ∃ v, e = .returned v ∧ BoolsList w' w.heap.size v (roundsP xs) ∧ Below w.heap.size w w' := by
  have HRO := hid (fun w1 (hb : Below w.heap.size w w1) => Rounds_any p c xs w1 hm (hrow.below hb) hp)
  have hnf : ∀ (w : World) (a : Addr), (binOp .eql 51 (.func (.func 41) #[] #[.pointer (some a)]) .nilFunc).run Try.prog w = .ok (.bool false) w := fun w a => by kernel_rfl
  have hlr : Hid ((roundsP xs).length ≤ xs.length + 1) := by
    by_cases hck : checkP xs = 0
    · exact (rounds_pos hck).2
    · simp [Hid, roundsP, hck]
  refine callsIn_wide.1 (?_ : CallsIn Fence.wide 5 Try.prog 23 #[.slice p xs.length c] w _)
  refine callsIn_of_wp_marks Try.func23 rfl (show Fence.wide.fn 23 from trivial) ?_ rfl
  simp only [Try.ntmps23, List.size_toArray, List.length_cons, List.length_nil, Nat.reduceAdd, Nat.reduceSub, Array.replicate_succ, Array.replicate_zero, List.push_toArray, List.append_toArray, List.nil_append, List.cons_append]
  gi_wp2_with (gi_at_call 31; refine (callsIn_wide.2 (HRO.out _ (Below.refl _ _))).mono ?_; rintro e w2 ⟨q, d, rfl, hbs, hcb, hrq, hqb, hb2⟩)
  have hwb := hb2.size
  obtain ⟨b, hb⟩ : ∃ b, b = w2.heap.size := ⟨_, rfl⟩
  have hba : Below w2.heap.size w2 (w2.alloc (.cells #[.slice none 0 0] 43)) := (Below.refl _ _).alloc (Nat.le_refl _) _
  have hcb2 := (hba.cell (p := ⟨w.heap.size, 0, none⟩) hbs).trans hcb
  have hseq := rounds1_seq 4 (by omega) xs hm w.heap.size q d (w2.alloc (.cells #[.slice none 0 0] 43)) (by simp; omega) hcb2 (hrq.below hba) (fun a ha => by have := (hqb a ha).2; simp; omega)
  refine wpIn_rangeFunc_V rfl (by omega) (gf := 41) (lb := #[.pointer (some ⟨w.heap.size, 0, none⟩)]) rfl trivial (enters_of Try.func41 (by kernel_rfl) rfl) hseq (Below.refl _ _) (fun _ => rfl)
    (by rintro k (rfl | ⟨a, ha, rfl⟩) <;> simp <;> first | omega | (have := (hqb a ha).2; omega))
    (fun W W' h k o hk _ _ => (h.block k (Array.getElem?_eq_some_iff.1 hk).1).trans hk)
    (fun pre hs x W l r o h hl => h.putObj hl o)
    (RndI w b) (fun _ _ _ => False) (fun pre T hs W W' h hst => h.later hst) (fun _ _ _ _ h _ => h)
    (fun pre T hs W r o h hl => h.putObj hl (by simp; omega) o) (fun _ _ _ _ _ h _ => h) ?start
    (fun x => { tmps := #[Value.slice p xs.length c, undef, Value.slice none 0 0,
          Value.func (Fn.func 41) #[] #[Value.pointer (some { block := w.heap.size, off := 0 })],
          Value.pointer (some { block := w2.heap.size, off := 0 }), x.1, Value.slice p xs.length c,
          Value.func (Fn.func 41) #[] #[Value.pointer (some { block := w.heap.size, off := 0 })],
          Value.func (Fn.func 41) #[] #[Value.pointer (some { block := w.heap.size, off := 0 })], Value.bool false,
          Value.func (Fn.func 41) #[] #[Value.pointer (some { block := w.heap.size, off := 0 })], x.1, undef, undef,
          undef, undef, undef, undef], defers := [] })
    ?assign ?body ?done ?stop
  case start =>
    intro r
    subst hb
    have hbn : Below (w2.heap.size + 1) (w2.alloc (.cells #[.slice none 0 0] 43)) (((w2.alloc (.cells #[.slice none 0 0] 43)).alloc (.deferred (some []))).alloc (.loop r)) := ((Below.refl _ _).alloc (by simp) _).alloc (by simp) _
    have hh := heap_alloc_new w2 (.cells #[.slice none 0 0] 43 (0, 0))
    have h1 : RndI w w2.heap.size [] (fun k => k = w.heap.size ∨ ∃ a, q = some a ∧ a.block = k) (w2.heap.size + 1) (w2.alloc (.cells #[.slice none 0 0] 43)) := by
      refine ⟨.slice none 0 0, [], cell_of_row _ _ 0 _ _ _ hh, frozen_of_row _ _ 0 _ _ hh, World.ownsRow_nil _ _ _ _, rfl, by simp, hb2.trans (hba.mono hwb), by omega, ?_, by simp [Value.ownBlock], by simp, ?_, by simp⟩
      rintro (h | ⟨a, ha, h⟩)
      · omega
      · have := hqb a ha; omega
      rintro k (h | ⟨a, ha, h⟩)
      · omega
      · have := hqb a ha; omega
    have := h1.later (W' := ((w2.alloc (.cells #[.slice none 0 0] 43)).alloc (.deferred (some []))).alloc (.loop r)) (by unfold StB; simpa using hbn)
    exact this.up (by simp) (by simp)
  case assign =>
    intro l x W K hK
    gi_wp2
    exact hK
  case body =>
    subst hb
    rintro l pre T hs x W ⟨v, ys, h1, h2, h3, h4, h5, h6, h7, h8, h9, h10, h11, h12⟩ ⟨⟨suf, hsuf⟩, xp, xc, hx1, hx2, hx3, hx4⟩ hhs hsz hT
    have hlen : pre.length ≤ xs.length := by
      have e1 := congrArg List.length hsuf
      have e2 := hlr.out
      simp only [List.length_append, List.length_map, List.length_singleton] at e1
      omega
    have hyl : ys.length ≤ xs.length := by have := congrArg List.length h4; simp at this; omega
    have hxl : x.2.length ≤ 1000000 := by
      rw [rounds_lens xs x.2 (by rw [← hsuf]; simp)]; exact hm
    clear hsuf
    obtain ⟨x1, x2⟩ := x
    dsimp only at hx1 hx3 hxl
    subst hx1
    simp only [World.size_alloc] at hhs hsz
    gi_wp2
    refine wpIn_region_any (by kernel_rfl) ?_
    change wpAnyIn _ _ _ _ _ _ _ _ _ (World.drew _)
    have hbv : some w2.heap.size ≠ v.ownBlock := fun e => by have := (h9 _ e.symm).1; omega
    have HCLN := hid (clone_any xp xc x2 W.drew (by omega) hx2 hx3)
    clear HRO hnf hcb hrq hqb hseq hcb2 hba
    refine wpAnyIn_ready (rs := [0, 1]) (by kernel_rfl) (by simp) ?_
    refine AllReadyIn.cons rfl (fun K hK => ?_) ?_
    · (go_simp; (with_reducible refine hK _ _ ?_); clear hK K)
      refine wpAnyIn_ready (rs := [1]) (by kernel_rfl) (by simp) ?_
      refine AllReadyIn.cons rfl (fun K hK => ?_) AllReadyIn.nil
      (go_simp; (with_reducible refine hK _ _ ?_); clear hK K)
      refine wpAnyIn_ready (rs := [2]) (by kernel_rfl) (by simp) ?_
      refine AllReadyIn.cons rfl (fun K hK => ?_) AllReadyIn.nil
      (go_simp; gi_wp2_with (gi_at_call 38; refine ((callsIn_wide.2 HCLN.out).inRound l).mono ?_; rintro e w3 ⟨cl, rfl, ho3, hb3⟩; have hl3 : w2.heap.size < w3.heap.size := Nat.lt_of_lt_of_le h10 hb3.size; have HO3 := hid ho3; obtain ⟨clp, clc, rfl, hclr⟩ := own_shape ho3; have hc3 := (hb3.cell (p := ⟨w2.heap.size, 0, none⟩) h10).trans h1; have hf3 := (hb3.frozen (p := ⟨w2.heap.size, 0, none⟩) h10).trans h2))
      refine wpAnyIn_ready (rs := [3]) (by kernel_rfl) (by simp) ?_
      refine AllReadyIn.cons rfl (fun K hK => ?_) AllReadyIn.nil
      (go_simp; (with_reducible refine hK _ _ ?_); clear hK K)
      refine wpAnyIn_ready (rs := [4]) (by kernel_rfl) (by simp) ?_
      refine AllReadyIn.cons rfl (fun K hK => ?_) AllReadyIn.nil
      refine Eq.mpr (if_pos (by kernel_rfl)) ?_
      refine operIn_app E43 _ _ rfl w.heap.size v ys.length (ys.map (·.1)) rfl (own_below h3 ((((Below.refl _ W).drew).trans hb3).alloc hb3.size _)) _ 1 1 [.slice clp x2.length clc] rfl rfl (by simp) (row_newAt _ _ _ _ rfl) (by simp [Value.oneCell']) (by unfold maxLen; omega) (by omega) (by simp; have := hb3.size; simp at this; omega) ?_
      intro v4 w4 ho4 hg4 hs4
      have HO4 := hid ho4
      obtain ⟨p4, c4, rfl, hr4⟩ := own_shape ho4
      refine hK _ _ ?_
      clear hK K
      have hcb := hg4.cell (a := ⟨w2.heap.size, 0, none⟩) (v := v) (by go_simp) hbv
      have hfb := (grown_frozen hg4 ⟨w2.heap.size, 0, none⟩ (by simp; omega) hbv).trans (show (w3.alloc (.cells #[.slice clp x2.length clc] 23)).frozen? ⟨w2.heap.size, 0, none⟩ = false by go_simp)
      refine wpAnyIn_ready (rs := [5]) (by kernel_rfl) (by simp) ?_
      refine AllReadyIn.cons rfl (fun K hK => ?_) AllReadyIn.nil
      (go_simp; (with_reducible refine hK _ _ ?_); clear hK K)
      refine wpAnyIn_done (by kernel_rfl) ?_ _
      show KeepsT (fun k => more T hs W k ∨ k = (w2.alloc (Obj.cells #[Value.slice none 0 0] 43)).heap.size ∨ k = (w2.alloc (Obj.cells #[Value.slice none 0 0] 43)).heap.size + 1) W _ ∧ RndI w w2.heap.size _ _ _ _
      simp only [World.size_alloc]
      exact rnd_step (xv := .slice xp x2.length xc) h3 h4 h5 h6 h7 h8 h9 h10 h11 h12 h1 h2 (by omega) hwb HO3.out hb3 HO4.out hg4 hs4
    · refine AllReadyIn.cons rfl (fun K hK => ?_) AllReadyIn.nil
      (go_simp; (with_reducible refine hK _ _ ?_); clear hK K)
      refine wpAnyIn_ready (rs := [0, 2]) (by kernel_rfl) (by simp) ?_
      refine AllReadyIn.cons rfl (fun K hK => ?_) ?_
      · (go_simp; (with_reducible refine hK _ _ ?_); clear hK K)
        refine wpAnyIn_ready (rs := [2]) (by kernel_rfl) (by simp) ?_
        refine AllReadyIn.cons rfl (fun K hK => ?_) AllReadyIn.nil
        (go_simp; gi_wp2_with (gi_at_call 38; refine ((callsIn_wide.2 HCLN.out).inRound l).mono ?_; rintro e w3 ⟨cl, rfl, ho3, hb3⟩; have hl3 : w2.heap.size < w3.heap.size := Nat.lt_of_lt_of_le h10 hb3.size; have HO3 := hid ho3; obtain ⟨clp, clc, rfl, hclr⟩ := own_shape ho3; have hc3 := (hb3.cell (p := ⟨w2.heap.size, 0, none⟩) h10).trans h1; have hf3 := (hb3.frozen (p := ⟨w2.heap.size, 0, none⟩) h10).trans h2))
        refine wpAnyIn_ready (rs := [3]) (by kernel_rfl) (by simp) ?_
        refine AllReadyIn.cons rfl (fun K hK => ?_) AllReadyIn.nil
        (go_simp; (with_reducible refine hK _ _ ?_); clear hK K)
        refine wpAnyIn_ready (rs := [4]) (by kernel_rfl) (by simp) ?_
        refine AllReadyIn.cons rfl (fun K hK => ?_) AllReadyIn.nil
        refine Eq.mpr (if_pos (by kernel_rfl)) ?_
        refine operIn_app E43 _ _ rfl w.heap.size v ys.length (ys.map (·.1)) rfl (own_below h3 ((((Below.refl _ W).drew).trans hb3).alloc hb3.size _)) _ 1 1 [.slice clp x2.length clc] rfl rfl (by simp) (row_newAt _ _ _ _ rfl) (by simp [Value.oneCell']) (by unfold maxLen; omega) (by omega) (by simp; have := hb3.size; simp at this; omega) ?_
        intro v4 w4 ho4 hg4 hs4
        have HO4 := hid ho4
        obtain ⟨p4, c4, rfl, hr4⟩ := own_shape ho4
        refine hK _ _ ?_
        clear hK K
        have hcb := hg4.cell (a := ⟨w2.heap.size, 0, none⟩) (v := v) (by go_simp) hbv
        have hfb := (grown_frozen hg4 ⟨w2.heap.size, 0, none⟩ (by simp; omega) hbv).trans (show (w3.alloc (.cells #[.slice clp x2.length clc] 23)).frozen? ⟨w2.heap.size, 0, none⟩ = false by go_simp)
        refine wpAnyIn_ready (rs := [5]) (by kernel_rfl) (by simp) ?_
        refine AllReadyIn.cons rfl (fun K hK => ?_) AllReadyIn.nil
        (go_simp; (with_reducible refine hK _ _ ?_); clear hK K)
        refine wpAnyIn_done (by kernel_rfl) ?_ _
        show KeepsT (fun k => more T hs W k ∨ k = (w2.alloc (Obj.cells #[Value.slice none 0 0] 43)).heap.size ∨ k = (w2.alloc (Obj.cells #[Value.slice none 0 0] 43)).heap.size + 1) W _ ∧ RndI w w2.heap.size _ _ _ _
        simp only [World.size_alloc]
        exact rnd_step (xv := .slice xp x2.length xc) h3 h4 h5 h6 h7 h8 h9 h10 h11 h12 h1 h2 (by omega) hwb HO3.out hb3 HO4.out hg4 hs4
      · refine AllReadyIn.cons rfl (fun K hK => ?_) AllReadyIn.nil
        (go_simp; gi_wp2_with (gi_at_call 38; refine ((callsIn_wide.2 HCLN.out).inRound l).mono ?_; rintro e w3 ⟨cl, rfl, ho3, hb3⟩; have hl3 : w2.heap.size < w3.heap.size := Nat.lt_of_lt_of_le h10 hb3.size; have HO3 := hid ho3; obtain ⟨clp, clc, rfl, hclr⟩ := own_shape ho3; have hc3 := (hb3.cell (p := ⟨w2.heap.size, 0, none⟩) h10).trans h1; have hf3 := (hb3.frozen (p := ⟨w2.heap.size, 0, none⟩) h10).trans h2))
        refine wpAnyIn_ready (rs := [0, 3]) (by kernel_rfl) (by simp) ?_
        refine AllReadyIn.cons rfl (fun K hK => ?_) ?_
        · (go_simp; (with_reducible refine hK _ _ ?_); clear hK K)
          refine wpAnyIn_ready (rs := [3]) (by kernel_rfl) (by simp) ?_
          refine AllReadyIn.cons rfl (fun K hK => ?_) AllReadyIn.nil
          (go_simp; (with_reducible refine hK _ _ ?_); clear hK K)
          refine wpAnyIn_ready (rs := [4]) (by kernel_rfl) (by simp) ?_
          refine AllReadyIn.cons rfl (fun K hK => ?_) AllReadyIn.nil
          refine Eq.mpr (if_pos (by kernel_rfl)) ?_
          refine operIn_app E43 _ _ rfl w.heap.size v ys.length (ys.map (·.1)) rfl (own_below h3 ((((Below.refl _ W).drew).trans hb3).alloc hb3.size _)) _ 1 1 [.slice clp x2.length clc] rfl rfl (by simp) (row_newAt _ _ _ _ rfl) (by simp [Value.oneCell']) (by unfold maxLen; omega) (by omega) (by simp; have := hb3.size; simp at this; omega) ?_
          intro v4 w4 ho4 hg4 hs4
          have HO4 := hid ho4
          obtain ⟨p4, c4, rfl, hr4⟩ := own_shape ho4
          refine hK _ _ ?_
          clear hK K
          have hcb := hg4.cell (a := ⟨w2.heap.size, 0, none⟩) (v := v) (by go_simp) hbv
          have hfb := (grown_frozen hg4 ⟨w2.heap.size, 0, none⟩ (by simp; omega) hbv).trans (show (w3.alloc (.cells #[.slice clp x2.length clc] 23)).frozen? ⟨w2.heap.size, 0, none⟩ = false by go_simp)
          refine wpAnyIn_ready (rs := [5]) (by kernel_rfl) (by simp) ?_
          refine AllReadyIn.cons rfl (fun K hK => ?_) AllReadyIn.nil
          (go_simp; (with_reducible refine hK _ _ ?_); clear hK K)
          refine wpAnyIn_done (by kernel_rfl) ?_ _
          show KeepsT (fun k => more T hs W k ∨ k = (w2.alloc (Obj.cells #[Value.slice none 0 0] 43)).heap.size ∨ k = (w2.alloc (Obj.cells #[Value.slice none 0 0] 43)).heap.size + 1) W _ ∧ RndI w w2.heap.size _ _ _ _
          simp only [World.size_alloc]
          exact rnd_step (xv := .slice xp x2.length xc) h3 h4 h5 h6 h7 h8 h9 h10 h11 h12 h1 h2 (by omega) hwb HO3.out hb3 HO4.out hg4 hs4
        · refine AllReadyIn.cons rfl (fun K hK => ?_) AllReadyIn.nil
          (go_simp; (with_reducible refine hK _ _ ?_); clear hK K)
          refine wpAnyIn_ready (rs := [0]) (by kernel_rfl) (by simp) ?_
          refine AllReadyIn.cons rfl (fun K hK => ?_) AllReadyIn.nil
          (go_simp; (with_reducible refine hK _ _ ?_); clear hK K)
          refine wpAnyIn_ready (rs := [4]) (by kernel_rfl) (by simp) ?_
          refine AllReadyIn.cons rfl (fun K hK => ?_) AllReadyIn.nil
          refine Eq.mpr (if_pos (by kernel_rfl)) ?_
          refine operIn_app E43 _ _ rfl w.heap.size v ys.length (ys.map (·.1)) rfl (own_below h3 ((((Below.refl _ W).drew).trans hb3).alloc hb3.size _)) _ 1 1 [.slice clp x2.length clc] rfl rfl (by simp) (row_newAt _ _ _ _ rfl) (by simp [Value.oneCell']) (by unfold maxLen; omega) (by omega) (by simp; have := hb3.size; simp at this; omega) ?_
          intro v4 w4 ho4 hg4 hs4
          have HO4 := hid ho4
          obtain ⟨p4, c4, rfl, hr4⟩ := own_shape ho4
          refine hK _ _ ?_
          clear hK K
          have hcb := hg4.cell (a := ⟨w2.heap.size, 0, none⟩) (v := v) (by go_simp) hbv
          have hfb := (grown_frozen hg4 ⟨w2.heap.size, 0, none⟩ (by simp; omega) hbv).trans (show (w3.alloc (.cells #[.slice clp x2.length clc] 23)).frozen? ⟨w2.heap.size, 0, none⟩ = false by go_simp)
          refine wpAnyIn_ready (rs := [5]) (by kernel_rfl) (by simp) ?_
          refine AllReadyIn.cons rfl (fun K hK => ?_) AllReadyIn.nil
          (go_simp; (with_reducible refine hK _ _ ?_); clear hK K)
          refine wpAnyIn_done (by kernel_rfl) ?_ _
          show KeepsT (fun k => more T hs W k ∨ k = (w2.alloc (Obj.cells #[Value.slice none 0 0] 43)).heap.size ∨ k = (w2.alloc (Obj.cells #[Value.slice none 0 0] 43)).heap.size + 1) W _ ∧ RndI w w2.heap.size _ _ _ _
          simp only [World.size_alloc]
          exact rnd_step (xv := .slice xp x2.length xc) h3 h4 h5 h6 h7 h8 h9 h10 h11 h12 h1 h2 (by omega) hwb HO3.out hb3 HO4.out hg4 hs4
  case done =>
    subst hb
    rintro ys' T hs W hS ⟨v, ys, h1, h2, h3, h4, h5, h6, h7, h8, h9, h10, h11, h12⟩ hD
    obtain ⟨p4, c4, rfl, hr4⟩ := own_shape h3
    gi_wp2
    have hg := grownBy_putObj' W (w2.heap.size + 1) (.deferred none)
    rw [World.size_alloc] at hD
    refine ⟨by simp, .inl ⟨_, _, rfl, run_takeDeferred hD, ?_⟩⟩
    refine ⟨_, results_tmp (t := 2) rfl _ _ _, .slice p4 ys.length c4, rfl, ⟨ys, h4.trans hS, own_keptO h3 hg hD rfl, fun y hy => (h5 y hy).1.keptO hg hD rfl⟩, h6.grown hg h6.size (fun k e => by cases e; omega)⟩
  case stop => rintro c pre W _ h _; exact h.elim
end Go.Proofs.Ytkjiiikcillcfaa
