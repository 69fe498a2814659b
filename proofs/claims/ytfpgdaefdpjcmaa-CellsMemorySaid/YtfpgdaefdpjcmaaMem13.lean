/-
  The walk of Clone of the code's memory.
-/
import Derived.Test.YtfpgdaefdpjcmaaMem12
namespace Go.Proofs.Ytfpgdaefdpjcmaa
open Go.RowKit
attribute [local go_sem] Oper.semAt_some
attribute [local go_sem] wide_fnM wide_depthM
variable {w w' : World} {d base : Nat} {S : Mem} {fp : Nat → Prop}

def CloneTell (w : World) (S : Mem) (e : Ending) (w' : World) : Prop :=
  ∃ d' fp', e = .returned (.pointer (some ⟨d', 0, none⟩)) ∧ MMach w' w.heap.size d' hdM S fp' ∧ (∀ k, fp' k → w.heap.size ≤ k) ∧ Below w.heap.size w w'

/-- What a round's loads read: the pointer's block, the variable's; dc: the block that is stored into. -/
structure KS (pb qb dc : Nat) (x : Ce) (p : Option Addr) (c : Nat) (W : World) : Prop where
  hp : W.heap[pb]? = some (.cells #[.pointer (some ⟨dc, 0, none⟩)] 54 (0, 0))
  hq : CeBlk W qb x p c
  np : pb ≠ dc
  nq : qb ≠ dc
section
variable {W W' : World} {pb qb dc c : Nat} {x : Ce} {p : Option Addr}
theorem KS.drew (h : KS pb qb dc x p c W) : KS pb qb dc x p c W.drew := ⟨h.hp, h.hq, h.np, h.nq⟩
theorem KS.alloc (h : KS pb qb dc x p c W) (o : Obj) : KS pb qb dc x p c (W.alloc o) := ⟨(Below.heap_alloc _ _ _ (Array.getElem?_eq_some_iff.1 h.hp).1).trans h.hp, h.hq.alloc o, h.np, h.nq⟩
theorem KS.grown {row : Option Nat} (h : KS pb qb dc x p c W) (hg : W.grownBy W' row) (hr : some pb ≠ row ∧ some qb ≠ row) : KS pb qb dc x p c W' := ⟨(hg.block _ (Array.getElem?_eq_some_iff.1 h.hp).1 hr.1).trans h.hp, h.hq.grown hg hr.2, h.np, h.nq⟩
theorem KS.set (h : KS pb qb dc x p c W) (o : Nat) (u : Value) : KS pb qb dc x p c (W.setCell ⟨dc, o, none⟩ u) := ⟨(Below.heap_setCell _ _ _ _ h.np).trans h.hp, (Below.heap_setCell _ _ _ _ h.nq).trans h.hq, h.np, h.nq⟩
end

set_option maxRecDepth 100000 in
set_option maxHeartbeats 2000000 in
theorem mclone_any (HM : MMach w base d hdM S fp) (hlen : S.cs.length ≤ 4096) :
    Calls Try.prog 26 #[.pointer (some ⟨d, 0, none⟩)] w (CloneTell w S) := by
  have HOKS : Hid (∀ x ∈ S.cs, okP x = true) := by
    obtain ⟨v, ys, h⟩ := HM
    rw [h.cs]
    intro x hx
    obtain ⟨z, hz, rfl⟩ := List.mem_map.1 hx
    exact h.ok z hz
  have HAL := hid (fun w1 (hb : Below w.heap.size w w1) => all_any (HM.below hb) (by omega))
  have HH : w.heap[d]? = some (hdM (Classical.choose HM) S.steps) ∧ d < w.heap.size := by
    have h := Classical.choose_spec HM
    obtain ⟨ys, h⟩ := h
    exact ⟨h.head, h.lt _ h.fd⟩
  obtain ⟨hh, hld⟩ := HH
  obtain ⟨c0, c1, c2⟩ := hdM_cells hh
  clear hh
  refine callsIn_wide.1 (?_ : CallsIn Fence.wide 5 Try.prog 26 #[.pointer (some ⟨d, 0, none⟩)] w _)
  refine callsIn_of_wp_marks Try.func26 rfl (show Fence.wide.fn 26 from trivial) ?_ rfl
  simp only [Try.ntmps26, List.size_toArray, List.length_cons, List.length_nil, Nat.reduceAdd, Nat.reduceSub, Array.replicate_succ, Array.replicate_zero, List.push_toArray, List.append_toArray, List.nil_append, List.cons_append]
  have hB0 : Hid (Below w.heap.size w ((w.alloc (.cells #[.bool true, .slice none 0 0, i64 S.steps] 56)).alloc (.cells #[.pointer (some ⟨w.heap.size, 0, none⟩)] 54))) := ((Below.refl _ _).alloc (Nat.le_refl _) _).alloc (by simp) _
  gi_wp2_with (gi_at_call 23; refine (callsIn_wide.2 (HAL.out _ hB0.out)).mono ?_; rintro e w2 ⟨v2, zs, rfl, hm2, hb2⟩; simp only [World.size_alloc] at hm2; have HM2 := hid hm2; have HB2 := hid hb2; clear hm2 hb2)
  have hb2w := HB2.out.size
  have hz2 : w.heap.size + 2 ≤ w2.heap.size := by simpa using hb2w
  have hseq := all1_seq 4 (by omega) HM2.out (by omega)
  refine wpIn_rangeFunc_VA rfl (by omega) (gf := 47) (lb := #[.pointer (some ⟨w.heap.size + 1 + 1, 0, none⟩)]) rfl trivial (enters_of Try.func47 (by kernel_rfl) rfl) hseq (Below.refl _ _) (fun _ => rfl)
    (fun k hk => HM2.out.lt k hk)
    (fun W W' h k o hk _ _ => (h.block k (Array.getElem?_eq_some_iff.1 hk).1).trans hk)
    (fun pre hs x W l r o h hl => ⟨h.1, h.2.1, ⟨h.2.2.1.1, h.2.2.1.2.1, h.2.2.1.2.2.1, h.2.2.1.2.2.2.putObj hl o⟩, fun q hq => by have := h.2.2.2 q hq; simpa using this⟩)
    (ClJ w w.heap.size (w.heap.size + 1) w2.heap.size S.steps) (fun _ _ _ => False) (fun pre T hs W W' h hst => h.later hst) (fun _ _ _ _ h _ => h)
    (fun pre T hs W r o h hl => h.putObj hl o) (fun _ _ _ _ _ h _ => h) ?start
    ?acta (fun x W => W.alloc (.cells #[i64 x.2.x.kind, i64 x.2.x.n, i64 x.2.x.owner, i64 x.2.x.need, .slice x.2.p x.2.x.came.length x.2.c, i64 x.2.x.turns, .bool x.2.x.there] 24)) (fun x W => (Below.refl _ _).alloc (Nat.le_refl _) _) (fun x W => (Below.refl _ _).alloc (Nat.le_refl _) _)
    (fun pre hs x W h => ⟨h.1, h.2.1, h.2.2.1.alloc _, fun q hq => by have := h.2.2.2 q hq; simp; omega⟩) ?assigna ?bodya ?donea ?stopa
  case start =>
    intro r
    have hbA : Below w.heap.size w w2 := hB0.out.trans (HB2.out.mono (by simp; omega))
    have e0 : w2.heap[w.heap.size]? = some (hdM (.slice none 0 0) S.steps) := (HB2.out.block _ (by simp; omega)).trans ((Below.heap_alloc _ _ _ (by simp)).trans (heap_alloc_new w _))
    have e1 : w2.heap[w.heap.size + 1]? = some (.cells #[.pointer (some ⟨w.heap.size, 0, none⟩)] 54 (0, 0)) := (HB2.out.block _ (by simp)).trans (by have := heap_alloc_new (w.alloc (.cells #[.bool true, .slice none 0 0, i64 S.steps] 56)) (.cells #[.pointer (some ⟨w.heap.size, 0, none⟩)] 54 (0, 0)); rwa [World.size_alloc] at this)
    have hb3 : Below w2.heap.size w2 ((w2.alloc (.deferred (some []))).alloc (.loop r)) := ((Below.refl _ _).alloc (Nat.le_refl _) _).alloc (by simp) _
    refine ⟨.slice none 0 0, [], fun k => k = w.heap.size, hbA.trans (hb3.mono hbA.size), ⟨rfl, fun y hy => (by cases hy), (hb3.block _ (by omega)).trans e0, World.ownsRow_nil _ _ _ _, fun y hy => (by cases hy), rfl, fun g hg => (by cases hg), fun y hy => (by cases hy), fun e => (by cases e), fun y hy => (by cases hy), fun k hk => (by subst hk; simp; omega), Nat.le_refl _⟩, (hb3.block _ (by omega)).trans e1, rfl, fun k hk => ⟨by omega, .inl hk⟩, fun h => by omega, fun g hg => (by cases hg), fun k hk => by omega, by simp, ⟨by omega, by omega, by omega, by omega⟩, Nat.le_refl _, fun g hg => (by cases hg)⟩
  case assigna =>
    intro l x W K hK
    unfold encC Ce.val
    gi_wp2
    exact hK
  case stopa => rintro c pre W _ h _; exact h.elim
  case bodya =>
    rintro l pre T hs x W0 r hI0 hV0 hI hV ⟨r', hl'⟩ hhs hsz hT
    clear hseq HAL c0 c1 c2
    have hz1 : ((W0.alloc (.cells #[i64 x.2.x.kind, i64 x.2.x.n, i64 x.2.x.owner, i64 x.2.x.need, .slice x.2.p x.2.x.came.length x.2.c, i64 x.2.x.turns, .bool x.2.x.there] 24)).putObj (w2.heap.size + 1) (.loop r)).heap.size = W0.heap.size + 1 := by simp
    have hC1 : CeBlk ((W0.alloc (.cells #[i64 x.2.x.kind, i64 x.2.x.n, i64 x.2.x.owner, i64 x.2.x.need, .slice x.2.p x.2.x.came.length x.2.c, i64 x.2.x.turns, .bool x.2.x.there] 24)).putObj (w2.heap.size + 1) (.loop r)) W0.heap.size x.2.x x.2.p x.2.c := (World.putObj_heap_other (by omega)).trans (ceblk_new W0 x.2.x x.2.p x.2.c)
    generalize (W0.alloc (.cells #[i64 x.2.x.kind, i64 x.2.x.n, i64 x.2.x.owner, i64 x.2.x.need, .slice x.2.p x.2.x.came.length x.2.c, i64 x.2.x.turns, .bool x.2.x.there] 24)).putObj (w2.heap.size + 1) (.loop r) = W1 at hI hV hz1 hC1 ⊢
    clear hl' hT
    obtain ⟨hx1, ⟨suf, hsuf⟩, hsl, _⟩ := hV
    have hq := hV0.2.2.2
    clear hV0
    obtain ⟨kx, y⟩ := x
    dsimp only at hx1 hsl hq hC1 hz1
    subst hx1
    have hok : okP y.x = true := HOKS.out _ (by rw [← hsuf]; simp)
    have hcm := ok_came hok
    have hkl : pre.length < S.cs.length := by rw [← hsuf]; simp
    obtain ⟨v, zs, fp2, hI⟩ := hI
    have hzl := hI.len
    obtain ⟨pb, hpb⟩ : ∃ pb, pb = w.heap.size + 1 := ⟨_, rfl⟩
    rw [← hpb] at hI
    have hzp := (Array.getElem?_eq_some_iff.1 hI.p).1
    have hKS1 : KS pb W0.heap.size w.heap.size y.x y.p y.c W1 := ⟨hI.p, hC1, by omega, by omega⟩
    have hwz : w.heap.size < W1.heap.size := by omega
    have hwz0 : W0.heap.size < W1.heap.size := by omega
    have HPV : Hid (some pb ≠ v.ownBlock ∧ some W0.heap.size ≠ v.ownBlock) := ⟨fun e => hI.pv _ e.symm rfl, fun e => by have := (hI.f _ (hI.m.fv _ e.symm)).1; have h0 : hs ≤ W0.heap.size := (by obtain ⟨_, _, _, h⟩ := hI0; exact h.hl); omega⟩
    have h0 : hs ≤ W0.heap.size := by obtain ⟨_, _, _, h⟩ := hI0; exact h.hl
    clear hI0
    have HI := hid hI
    have HND : Hid (v.ownBlock ≠ some w.heap.size) := hI.m.nd
    have hD1 : W1.heap[w.heap.size]? = some (hdM v S.steps) := hI.m.head
    have d1 := (hdM_cells hD1).2.1
    have HD1 := hid hD1
    have HOWN : Hid (W1.ownsRow w.heap.size 24 7 v zs.length (ceRow zs)) := hI.m.own
    have HOK := hid hok
    have HSL := hid hsl
    have HQ2 := hid hq
    have HZ1 := hid hz1
    obtain ⟨⟨kind, m, owner, need, came, turns, there⟩, yp, yc⟩ := y
    dsimp only at *
    have hKS : KS pb W0.heap.size w.heap.size ⟨kind, m, owner, need, came, turns, there⟩ yp yc W1 := hKS1
    have hKS0 : KS pb W0.heap.size w.heap.size ⟨kind, m, owner, need, came, turns, there⟩ yp yc W1.drew := KS.drew hKS
    have f0 : ∀ w', KS pb W0.heap.size w.heap.size ⟨kind, m, owner, need, came, turns, there⟩ yp yc w' → w'.cell? ⟨pb, 0, none⟩ = some (.pointer (some ⟨w.heap.size, 0, none⟩)) := fun w' h => cell_of_row _ _ 0 _ _ _ h.hp
    have a0 : ∀ w', KS pb W0.heap.size w.heap.size ⟨kind, m, owner, need, came, turns, there⟩ yp yc w' → w'.cell? ⟨W0.heap.size, 0, none⟩ = some (i64 kind) := fun w' h => h.hq.facts.1.1
    have a1 : ∀ w', KS pb W0.heap.size w.heap.size ⟨kind, m, owner, need, came, turns, there⟩ yp yc w' → w'.cell? ⟨W0.heap.size, 1, none⟩ = some (i64 m) := fun w' h => h.hq.facts.1.2.1
    have a2 : ∀ w', KS pb W0.heap.size w.heap.size ⟨kind, m, owner, need, came, turns, there⟩ yp yc w' → w'.cell? ⟨W0.heap.size, 2, none⟩ = some (i64 owner) := fun w' h => h.hq.facts.1.2.2.1
    have a3 : ∀ w', KS pb W0.heap.size w.heap.size ⟨kind, m, owner, need, came, turns, there⟩ yp yc w' → w'.cell? ⟨W0.heap.size, 3, none⟩ = some (i64 need) := fun w' h => h.hq.facts.1.2.2.2.1
    have a4 : ∀ w', KS pb W0.heap.size w.heap.size ⟨kind, m, owner, need, came, turns, there⟩ yp yc w' → w'.cell? ⟨W0.heap.size, 4, none⟩ = some (.slice yp came.length yc) := fun w' h => h.hq.facts.1.2.2.2.2.1
    have a5 : ∀ w', KS pb W0.heap.size w.heap.size ⟨kind, m, owner, need, came, turns, there⟩ yp yc w' → w'.cell? ⟨W0.heap.size, 5, none⟩ = some (i64 turns) := fun w' h => h.hq.facts.1.2.2.2.2.2.1
    have a6 : ∀ w', KS pb W0.heap.size w.heap.size ⟨kind, m, owner, need, came, turns, there⟩ yp yc w' → w'.cell? ⟨W0.heap.size, 6, none⟩ = some (.bool there) := fun w' h => h.hq.facts.1.2.2.2.2.2.2
    clear hI hC1 hD1 hok hsl hq hz1 hsuf hKS1
    gi_wp2
    rw [← hpb]
    refine wpInR_held (KS pb W0.heap.size w.heap.size ⟨kind, m, owner, need, came, turns, there⟩ yp yc) (by kernel_rfl) (by kernel_rfl) (by rintro ⟨a, w, h⟩; exact h) ?_
    clear hpb
    refine wpAnyH_take (i := 0) (oi := { dst := some 25, op := Op.load 54 (Operand.tmp 3), type := 54, pos := "cells.go:267", after := #[], guard := none }) (v := ?pv0) rfl (by kernel_rfl) (by kernel_rfl) (by kernel_rfl) (fun _ _ _ h => h) (Or.inl ⟨by rfl, ?ph0⟩) (by assumption) ?pr0
    case ph0 => ((intro w hSw; (try dsimp only at hSw); go_simp); try with_reducible rfl)
    try simp only [Act.put, List.setIfInBounds_toArray, List.set_cons_zero, List.set_cons_succ]
    refine wpAnyH_take (i := 1) (oi := { dst := some 26, op := Op.load 54 (Operand.tmp 3), type := 54, pos := "cells.go:267", after := #[], guard := none }) (v := ?pv1) rfl (by kernel_rfl) (by kernel_rfl) (by kernel_rfl) (fun _ _ _ h => h) (Or.inl ⟨by rfl, ?ph1⟩) (by assumption) ?pr1
    case ph1 => ((intro w hSw; (try dsimp only at hSw); go_simp); try with_reducible rfl)
    try simp only [Act.put, List.setIfInBounds_toArray, List.set_cons_zero, List.set_cons_succ]
    refine wpAnyH_take (i := 2) (oi := { dst := some 27, op := Op.nilCheck (Operand.tmp 26), type := 0, pos := "cells.go:267", after := #[{ on := 1, ground := Ground.data }], guard := none }) (v := ?pv2) rfl (by kernel_rfl) (by kernel_rfl) (by kernel_rfl) (fun _ _ _ h => h) (Or.inl ⟨by rfl, ?ph2⟩) (by assumption) ?pr2
    case ph2 => ((intro w hSw; (try dsimp only at hSw); go_simp); try with_reducible rfl)
    try simp only [Act.put, List.setIfInBounds_toArray, List.set_cons_zero, List.set_cons_succ]
    refine wpAnyH_take (i := 3) (oi := { dst := some 28, op := Op.fieldAddr 56 (Operand.tmp 27) 1, type := 0, pos := "cells.go:267", after := #[{ on := 2, ground := Ground.data }], guard := none }) (v := ?pv3) rfl (by kernel_rfl) (by kernel_rfl) (by kernel_rfl) (fun _ _ _ h => h) (Or.inl ⟨by rfl, ?ph3⟩) (by assumption) ?pr3
    case ph3 => ((intro w hSw; (try dsimp only at hSw); go_simp); try with_reducible rfl)
    try simp only [Act.put, List.setIfInBounds_toArray, List.set_cons_zero, List.set_cons_succ]
    refine wpAnyH_take (i := 5) (oi := { dst := some 30, op := Op.load 24 (Operand.tmp 5), type := 24, pos := "cells.go:267", after := #[], guard := none }) (v := ?pv5) rfl (by kernel_rfl) (by kernel_rfl) (by kernel_rfl) (fun _ _ _ h => h) (Or.inl ⟨by rfl, ?ph5⟩) (by assumption) ?pr5
    case ph5 => ((intro w hSw; (try dsimp only at hSw); go_simp); try with_reducible rfl)
    try simp only [Act.put, List.setIfInBounds_toArray, List.set_cons_zero, List.set_cons_succ]
    refine wpAnyH_ready (rs := [4, 6]) (by kernel_rfl) (by simp) ?_
    refine AllReadyH.cons (o := { dst := some 29, op := Op.load 31 (Operand.tmp 28), type := 31, pos := "cells.go:267", after := #[{ on := 3, ground := Ground.data }], guard := none }) rfl (fun K hK => ?_) ?_
    · go_simp
      refine hK.out _ _ (by assumption) (fun hHeld => ?_)
      clear hK K
      try simp only [Act.put, List.setIfInBounds_toArray, List.set_cons_zero, List.set_cons_succ]
      refine wpAnyH_ready (rs := [6]) (by kernel_rfl) (by simp) ?_
      refine AllReadyH.cons (o := { dst := some 31, op := Op.buildSlice 31 1 #[(0, Operand.tmp 30)], type := 31, pos := "cells.go:267", after := #[{ on := 5, ground := Ground.data }], guard := none }) rfl (fun K hK => ?_) AllReadyH.nil
      go_simp
      refine hK.out _ _ (by first | exact KS.drew (KS.alloc hKS _) | exact KS.alloc hKS _) (fun hHeld => ?_)
      clear hK K
      try simp only [Act.put, List.setIfInBounds_toArray, List.set_cons_zero, List.set_cons_succ]
      refine wpAnyH_ready (rs := [7]) (by kernel_rfl) (by simp) ?_
      refine AllReadyH.cons (o := { dst := some 32, op := Op.call { callee := Callee.builtin Builtin.append, args := #[Operand.tmp 29, Operand.tmp 31], argTypes := #[31, 31] }, type := 31, pos := "cells.go:267", after := #[{ on := 4, ground := Ground.data }, { on := 6, ground := Ground.data }], guard := none }) rfl (fun K hK => ?_) AllReadyH.nil
      refine step_app ECell rfl (.tmp 29) (.tmp 31) rfl w.heap.size v zs.length (ceRow zs) rfl (HOWN.out.alloc _) ⟨_, 0, none⟩ 1 1 (CeR.cells ⟨⟨kind, m, owner, need, came, turns, there⟩, yp, yc⟩) rfl rfl (row_newAt _ _ _ _ (by simp)) (ceCells_one _) (by unfold maxLen; omega) (by omega) (by simp; omega) ?_
      intro v4 w4 ho4 hg4 hs4
      obtain ⟨vp4, vc4, rfl, _⟩ := own_row ho4
      have HO4 := hid ho4
      have HG4 := hid hg4
      have HS4 := hid hs4
      have hKS4 : KS pb W0.heap.size w.heap.size ⟨kind, m, owner, need, came, turns, there⟩ yp yc w4 := KS.grown (KS.drew (KS.alloc hKS _)) hg4 HPV.out
      have hD4 : w4.heap[w.heap.size]? = some (hdM v S.steps) := (hg4.block _ (by simp; omega) (fun e => HND.out e.symm)).trans ((Below.heap_alloc _ _ _ (by omega)).trans HD1.out)
      have d4 := (hdM_cells hD4).2.1
      have f4 : w4.frozen? ⟨w.heap.size, 1, none⟩ = false := frozen_of_row _ _ _ _ _ hD4
      have HD4 := hid hD4
      clear ho4 hg4 hs4 hD4
      refine hK.out _ _ hKS4 (fun hHeld => ?_)
      clear hK K
      try simp only [Act.put, List.setIfInBounds_toArray, List.set_cons_zero, List.set_cons_succ]
      refine wpAnyH_take (i := 8) (oi := { dst := some 33, op := Op.nilCheck (Operand.tmp 25), type := 0, pos := "cells.go:267", after := #[{ on := 0, ground := Ground.data }, { on := 0, ground := Ground.phase }, { on := 1, ground := Ground.phase }, { on := 2, ground := Ground.phase }, { on := 3, ground := Ground.phase }, { on := 4, ground := Ground.phase }, { on := 5, ground := Ground.phase }, { on := 6, ground := Ground.phase }, { on := 7, ground := Ground.phase }], guard := none }) (v := ?qav8) rfl (by kernel_rfl) (by kernel_rfl) (by kernel_rfl) (fun _ _ _ h => h) (Or.inl ⟨by rfl, ?qah8⟩) (by assumption) ?qar8
      case qah8 => ((intro w hSw; (try dsimp only at hSw); go_simp); try with_reducible rfl)
      try simp only [Act.put, List.setIfInBounds_toArray, List.set_cons_zero, List.set_cons_succ]
      refine wpAnyH_take (i := 9) (oi := { dst := some 34, op := Op.fieldAddr 56 (Operand.tmp 33) 1, type := 0, pos := "cells.go:267", after := #[{ on := 8, ground := Ground.data }, { on := 0, ground := Ground.phase }, { on := 1, ground := Ground.phase }, { on := 2, ground := Ground.phase }, { on := 3, ground := Ground.phase }, { on := 4, ground := Ground.phase }, { on := 5, ground := Ground.phase }, { on := 6, ground := Ground.phase }, { on := 7, ground := Ground.phase }], guard := none }) (v := ?qav9) rfl (by kernel_rfl) (by kernel_rfl) (by kernel_rfl) (fun _ _ _ h => h) (Or.inl ⟨by rfl, ?qah9⟩) (by assumption) ?qar9
      case qah9 => ((intro w hSw; (try dsimp only at hSw); go_simp); try with_reducible rfl)
      try simp only [Act.put, List.setIfInBounds_toArray, List.set_cons_zero, List.set_cons_succ]
      refine wpAnyH_ready (rs := [10]) (by kernel_rfl) (by simp) ?_
      refine AllReadyH.cons (o := { dst := none, op := Op.store 31 (Operand.tmp 34) (Operand.tmp 32), type := 0, pos := "cells.go:267", after := #[{ on := 9, ground := Ground.data }, { on := 7, ground := Ground.data }, { on := 7, ground := Ground.chain }, { on := 0, ground := Ground.phase }, { on := 1, ground := Ground.phase }, { on := 2, ground := Ground.phase }, { on := 3, ground := Ground.phase }, { on := 4, ground := Ground.phase }, { on := 5, ground := Ground.phase }, { on := 6, ground := Ground.phase }, { on := 7, ground := Ground.phase }], guard := none }) rfl (fun K hK => ?_) AllReadyH.nil
      go_simp
      refine hK.out _ _ (by first | exact KS.drew (KS.set hKS4 _ _) | exact KS.set hKS4 _ _) (fun hHeld => ?_)
      clear hK K
      try simp only [Act.put, List.setIfInBounds_toArray, List.set_cons_zero, List.set_cons_succ]
      refine wpAnyH_done (by kernel_rfl) ?_ _
      have hP := HI.out.push (k := pre.length) (W0 := W0.heap.size) h0 hwz0 (w2 := (W1.alloc (.cells #[i64 kind, i64 m, i64 owner, i64 need, .slice yp came.length yc, i64 turns, .bool there] 24)).drew) (((Below.refl _ _).alloc (Nat.le_refl _) _).drew) HOK.out (HSL.out.alloc _) HQ2.out HO4.out HG4.out HS4.out HD4.out
      rw [hzl] at hP
      exact ⟨hP.2, hP.1⟩
    · refine AllReadyH.cons (o := { dst := some 31, op := Op.buildSlice 31 1 #[(0, Operand.tmp 30)], type := 31, pos := "cells.go:267", after := #[{ on := 5, ground := Ground.data }], guard := none }) rfl (fun K hK => ?_) AllReadyH.nil
      go_simp
      refine hK.out _ _ (by first | exact KS.drew (KS.alloc hKS _) | exact KS.alloc hKS _) (fun hHeld => ?_)
      clear hK K
      try simp only [Act.put, List.setIfInBounds_toArray, List.set_cons_zero, List.set_cons_succ]
      refine wpAnyH_ready (rs := [4]) (by kernel_rfl) (by simp) ?_
      refine AllReadyH.cons (o := { dst := some 29, op := Op.load 31 (Operand.tmp 28), type := 31, pos := "cells.go:267", after := #[{ on := 3, ground := Ground.data }], guard := none }) rfl (fun K hK => ?_) AllReadyH.nil
      go_simp
      refine hK.out _ _ (by assumption) (fun hHeld => ?_)
      clear hK K
      try simp only [Act.put, List.setIfInBounds_toArray, List.set_cons_zero, List.set_cons_succ]
      refine wpAnyH_ready (rs := [7]) (by kernel_rfl) (by simp) ?_
      refine AllReadyH.cons (o := { dst := some 32, op := Op.call { callee := Callee.builtin Builtin.append, args := #[Operand.tmp 29, Operand.tmp 31], argTypes := #[31, 31] }, type := 31, pos := "cells.go:267", after := #[{ on := 4, ground := Ground.data }, { on := 6, ground := Ground.data }], guard := none }) rfl (fun K hK => ?_) AllReadyH.nil
      refine step_app ECell rfl (.tmp 29) (.tmp 31) rfl w.heap.size v zs.length (ceRow zs) rfl (HOWN.out.alloc _) ⟨_, 0, none⟩ 1 1 (CeR.cells ⟨⟨kind, m, owner, need, came, turns, there⟩, yp, yc⟩) rfl rfl (row_newAt _ _ _ _ (by simp)) (ceCells_one _) (by unfold maxLen; omega) (by omega) (by simp; omega) ?_
      intro v4 w4 ho4 hg4 hs4
      obtain ⟨vp4, vc4, rfl, _⟩ := own_row ho4
      have HO4 := hid ho4
      have HG4 := hid hg4
      have HS4 := hid hs4
      have hKS4 : KS pb W0.heap.size w.heap.size ⟨kind, m, owner, need, came, turns, there⟩ yp yc w4 := KS.grown (KS.drew (KS.alloc hKS _)) hg4 HPV.out
      have hD4 : w4.heap[w.heap.size]? = some (hdM v S.steps) := (hg4.block _ (by simp; omega) (fun e => HND.out e.symm)).trans ((Below.heap_alloc _ _ _ (by omega)).trans HD1.out)
      have d4 := (hdM_cells hD4).2.1
      have f4 : w4.frozen? ⟨w.heap.size, 1, none⟩ = false := frozen_of_row _ _ _ _ _ hD4
      have HD4 := hid hD4
      clear ho4 hg4 hs4 hD4
      refine hK.out _ _ hKS4 (fun hHeld => ?_)
      clear hK K
      try simp only [Act.put, List.setIfInBounds_toArray, List.set_cons_zero, List.set_cons_succ]
      refine wpAnyH_take (i := 8) (oi := { dst := some 33, op := Op.nilCheck (Operand.tmp 25), type := 0, pos := "cells.go:267", after := #[{ on := 0, ground := Ground.data }, { on := 0, ground := Ground.phase }, { on := 1, ground := Ground.phase }, { on := 2, ground := Ground.phase }, { on := 3, ground := Ground.phase }, { on := 4, ground := Ground.phase }, { on := 5, ground := Ground.phase }, { on := 6, ground := Ground.phase }, { on := 7, ground := Ground.phase }], guard := none }) (v := ?qbv8) rfl (by kernel_rfl) (by kernel_rfl) (by kernel_rfl) (fun _ _ _ h => h) (Or.inl ⟨by rfl, ?qbh8⟩) (by assumption) ?qbr8
      case qbh8 => ((intro w hSw; (try dsimp only at hSw); go_simp); try with_reducible rfl)
      try simp only [Act.put, List.setIfInBounds_toArray, List.set_cons_zero, List.set_cons_succ]
      refine wpAnyH_take (i := 9) (oi := { dst := some 34, op := Op.fieldAddr 56 (Operand.tmp 33) 1, type := 0, pos := "cells.go:267", after := #[{ on := 8, ground := Ground.data }, { on := 0, ground := Ground.phase }, { on := 1, ground := Ground.phase }, { on := 2, ground := Ground.phase }, { on := 3, ground := Ground.phase }, { on := 4, ground := Ground.phase }, { on := 5, ground := Ground.phase }, { on := 6, ground := Ground.phase }, { on := 7, ground := Ground.phase }], guard := none }) (v := ?qbv9) rfl (by kernel_rfl) (by kernel_rfl) (by kernel_rfl) (fun _ _ _ h => h) (Or.inl ⟨by rfl, ?qbh9⟩) (by assumption) ?qbr9
      case qbh9 => ((intro w hSw; (try dsimp only at hSw); go_simp); try with_reducible rfl)
      try simp only [Act.put, List.setIfInBounds_toArray, List.set_cons_zero, List.set_cons_succ]
      refine wpAnyH_ready (rs := [10]) (by kernel_rfl) (by simp) ?_
      refine AllReadyH.cons (o := { dst := none, op := Op.store 31 (Operand.tmp 34) (Operand.tmp 32), type := 0, pos := "cells.go:267", after := #[{ on := 9, ground := Ground.data }, { on := 7, ground := Ground.data }, { on := 7, ground := Ground.chain }, { on := 0, ground := Ground.phase }, { on := 1, ground := Ground.phase }, { on := 2, ground := Ground.phase }, { on := 3, ground := Ground.phase }, { on := 4, ground := Ground.phase }, { on := 5, ground := Ground.phase }, { on := 6, ground := Ground.phase }, { on := 7, ground := Ground.phase }], guard := none }) rfl (fun K hK => ?_) AllReadyH.nil
      go_simp
      refine hK.out _ _ (by first | exact KS.drew (KS.set hKS4 _ _) | exact KS.set hKS4 _ _) (fun hHeld => ?_)
      clear hK K
      try simp only [Act.put, List.setIfInBounds_toArray, List.set_cons_zero, List.set_cons_succ]
      refine wpAnyH_done (by kernel_rfl) ?_ _
      have hP := HI.out.push (k := pre.length) (W0 := W0.heap.size) h0 hwz0 (w2 := (W1.alloc (.cells #[i64 kind, i64 m, i64 owner, i64 need, .slice yp came.length yc, i64 turns, .bool there] 24)).drew) (((Below.refl _ _).alloc (Nat.le_refl _) _).drew) HOK.out (HSL.out.alloc _) HQ2.out HO4.out HG4.out HS4.out HD4.out
      rw [hzl] at hP
      exact ⟨hP.2, hP.1⟩
  case donea =>
    rintro xs T hs W1 hS ⟨v, zs, fp2, hI⟩ hD
    have HI := hid hI
    have HS := hid hS
    have HD := hid hD
    have hp : W1.cell? ⟨w.heap.size + 1, 0, none⟩ = some (.pointer (some ⟨w.heap.size, 0, none⟩)) := cell_of_row _ _ 0 _ _ _ hI.p
    clear hI hS hD hseq HAL c0 c1 c2
    gi_wp2
    have hM := HI.out.m
    rw [HS.out] at hM
    have hfp := HI.out.f
    have hdp := HI.out.dp
    refine ⟨by simp, .inl ⟨_, _, rfl, run_takeDeferred HD.out, ?_⟩⟩
    refine ⟨_, results_tmp (t := 2) rfl _ _ _, w.heap.size, fp2, rfl, ⟨v, zs, ?_⟩, fun k hk => ?_, ?_⟩
    · exact hM.kept (fun k hk => World.putObj_heap_other (by have := hfp k hk; omega)) (by simp)
    · have := hfp k hk; omega
    · exact Below.putObjB HI.out.b HI.out.b.size (by omega) (.deferred none)
end Go.Proofs.Ytfpgdaefdpjcmaa
