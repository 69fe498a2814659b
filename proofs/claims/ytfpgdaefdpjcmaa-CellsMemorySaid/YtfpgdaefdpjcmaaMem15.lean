/-
  Waits of the document's memory.
-/
import Derived.Test.YtfpgdaefdpjcmaaMem6
namespace Go.Proofs.Ytfpgdaefdpjcmaa
open Go.RowKit
variable {W : World} {base d : Nat} {v : Value} {ys : List CeR} {S : Mem} {fp : Nat → Prop}

/-- What holds while a region goes on whose variable may be laid ahead of the call or behind it. -/
structure LR (W : World) (a : Ac) (w' : World) : Prop where
  b : Below W.heap.size W w'
  a : AcBlk w' W.heap.size a
theorem LR.drew {a : Ac} {w' : World} (h : LR W a w') : LR W a w'.drew := ⟨h.b.drew, h.a⟩
theorem LR.lt {a : Ac} {w' : World} (h : LR W a w') : W.heap.size < w'.heap.size := (Array.getElem?_eq_some_iff.1 h.a).1
theorem LR.below {a : Ac} {w' w2 : World} (h : LR W a w') (hb : Below w'.heap.size w' w2) : LR W a w2 := ⟨h.b.trans (hb.mono h.b.size), h.a.below hb⟩
theorem LR.alloc {a : Ac} {w' : World} (h : LR W a w') (o : Obj) : LR W a (w'.alloc o) := ⟨h.b.alloc h.b.size _, h.a.alloc o⟩
theorem LR.set {a : Ac} {w' : World} (h : LR W a w') {b : Nat} (hb : W.heap.size < b) (o : Nat) (u : Value) : LR W a (w'.setCell ⟨b, o, none⟩ u) := by
  refine ⟨h.b.setCell (by simp; omega) _, ?_⟩
  exact (Below.heap_setCell _ _ _ _ (by show W.heap.size ≠ b; omega)).trans h.a

set_option maxRecDepth 100000 in
set_option maxHeartbeats 2000000 in
theorem rwaits_no (H : MemIs W base d hdR v ys S fp) (wk : Int) (a : Ac) (hno : a.cell < 0 ∨ (ys.length : Int) ≤ a.cell) :
    Calls Try.prog 29 #[.pointer (some ⟨d, 0, none⟩), i64 wk, a.val] W fun e w' => e = .returned (.bool ((S.look wk a).2.2 == 231)) ∧ Below W.heap.size W w' := by
  rw [H.look_no hno]
  obtain ⟨c0, c1⟩ := hdR_cells H.head
  have hld := (Array.getElem?_eq_some_iff.1 H.head).1
  obtain ⟨p, c, rfl, hr⟩ := own_shape H.own
  obtain ⟨ak, ac, ao, an⟩ := a
  dsimp only at hno
  unfold Ac.val
  dsimp only
  have hld1 : d < W.heap.size + 1 := by omega
  have hlen : ys.length ≤ maxLen := by
    rcases H.own.2 with ⟨_, h⟩ | ⟨_, cap, _, _, _, _, h1, h2, _⟩ <;> omega
  unfold maxLen at hlen
  clear hr H
  by_cases h0 : ac < 0
  · have e1 : decide (ac < 0) = true := by simpa using h0
    clear hno
    go_enter Try.func29, Try.ntmps29
    go_upto_region 1 with (fail)
    go_quiet (fail)
    go_wp2_with fail
    go_ret
    exact ⟨rfl, below_drewN ((Below.refl _ _).alloc (Nat.le_refl _) _) _⟩
  · have e1 : decide (ac < 0) = false := by simpa using h0
    have e2 : decide ((ys.length : Int) ≤ ac) = true := by simp; omega
    go_enter Try.func29, Try.ntmps29
    go_upto_region 1 with (fail)
    go_quiet (fail)
    go_wp2_with fail
    go_ret
    exact ⟨rfl, below_drewN ((Below.refl _ _).alloc (Nat.le_refl _) _) _⟩

set_option maxRecDepth 100000 in
set_option maxHeartbeats 4000000 in
theorem rwaits_yes (H : MemIs W base d hdR v ys S fp) (wk : Int) (a : Ac) (k : Nat) (hk : k < ys.length) (he : a.cell = k) :
    Calls Try.prog 29 #[.pointer (some ⟨d, 0, none⟩), i64 wk, a.val] W fun e w' => e = .returned (.bool ((S.look wk a).2.2 == 231)) ∧ Below W.heap.size W w' := by
  rw [H.look hk he]
  obtain ⟨c0, _⟩ := hdR_cells H.head
  have hld := (Array.getElem?_eq_some_iff.1 H.head).1
  have hy := List.getElem_mem hk
  have hsl := H.sl _ hy
  have hcm := ok_came (H.ok _ hy)
  obtain ⟨g, c, rfl, hlg⟩ := own_block H.own (by omega)
  have hr : Row W (some ⟨g, 0, none⟩) (ceRow ys) := by
    obtain ⟨p, c', e, hr⟩ := own_shape H.own
    injection e with e1; rw [e1]; exact hr
  obtain ⟨r0, r1, r2, r3, r4, r5, r6⟩ := ce_cells hr k hk
  simp only [Nat.zero_add] at r0 r1 r2 r3 r4 r5 r6
  have HONE := hid (fun w1 (hb : Below W.heap.size W w1) => rone_any ys[k].x ys[k].p ys[k].c wk a w1 (hsl.below hb) (by omega))
  obtain ⟨ak, ac, ao, an⟩ := a
  dsimp only at he
  subst he
  have hlen : ys.length ≤ maxLen := by
    rcases H.own.2 with ⟨_, h⟩ | ⟨_, cap, _, _, _, _, h1, h2, _⟩ <;> omega
  unfold maxLen at hlen
  generalize ys[k] = y at *
  obtain ⟨⟨kind, n, owner, need, came, turns, there⟩, p, c2⟩ := y
  dsimp only at *
  generalize oneP ⟨kind, n, owner, need, came, turns, there⟩ wk ⟨ak, k, ao, an⟩ = r at HONE ⊢
  obtain ⟨⟨kind', n', owner', need', came', turns', there'⟩, V, E⟩ := r
  unfold CeTell Ce.val Ac.val at HONE
  unfold Ac.val
  dsimp only [List.cons_append, List.nil_append] at *
  have hkI : (k : Int) < ys.length := by omega
  have e1 : decide ((k : Int) < 0) = false := by simp
  have e2 : decide ((ys.length : Int) ≤ k) = false := by simp; omega
  clear hr H hsl hcm hy
  have hld1 : d < W.heap.size + 1 := by omega
  go_enter Try.func29, Try.ntmps29
  go_upto_region 1 with (fail)
  go_quiet (fail)
  go_upto_region 3 with (fail)
  obtain ⟨W2, hW2⟩ : ∃ W2, W2 = (W.alloc (.cells #[i64 ak, i64 k, i64 ao, i64 an] 26)).drewN nq := ⟨_, rfl⟩
  rw [← hW2]
  have hL2 : LR W ⟨ak, k, ao, an⟩ W2 := by rw [hW2]; exact ⟨below_drewN ((Below.refl _ _).alloc (Nat.le_refl _) _) _, acblk_new W ⟨ak, k, ao, an⟩⟩
  clear hW2
  have hzA := hL2.lt
  have hld2 : LR W ⟨ak, k, ao, an⟩ W2.drew := hL2.drew
  have q0 : ∀ w', LR W ⟨ak, k, ao, an⟩ w' → w'.cell? ⟨d, 0, none⟩ = some (.slice (some ⟨g, 0, none⟩) ys.length c) := fun w' hb => (hb.b.cell (p := ⟨d, 0, none⟩) hld).trans c0
  have a0 : ∀ w', LR W ⟨ak, k, ao, an⟩ w' → w'.cell? ⟨W.heap.size, 0, none⟩ = some (i64 ak) := fun w' hb => hb.a.facts.1.1
  have a1 : ∀ w', LR W ⟨ak, k, ao, an⟩ w' → w'.cell? ⟨W.heap.size, 1, none⟩ = some (i64 k) := fun w' hb => hb.a.facts.1.2.1
  have a2 : ∀ w', LR W ⟨ak, k, ao, an⟩ w' → w'.cell? ⟨W.heap.size, 2, none⟩ = some (i64 ao) := fun w' hb => hb.a.facts.1.2.2.1
  have a3 : ∀ w', LR W ⟨ak, k, ao, an⟩ w' → w'.cell? ⟨W.heap.size, 3, none⟩ = some (i64 an) := fun w' hb => hb.a.facts.1.2.2.2
  have hglt : g < W.heap.size := hlg.2.1
  have up : ∀ w' (j : Nat) (u : Value), LR W ⟨ak, k, ao, an⟩ w' → W.cell? ⟨g, j, none⟩ = some u → w'.cell? ⟨g, j, none⟩ = some u := fun w' j u hb h => (hb.b.cell (p := ⟨g, j, none⟩) hglt).trans h
  have b0 := fun w' (hb : LR W ⟨ak, k, ao, an⟩ w') => up w' _ _ hb r0
  have b1 := fun w' (hb : LR W ⟨ak, k, ao, an⟩ w') => up w' _ _ hb r1
  have b2 := fun w' (hb : LR W ⟨ak, k, ao, an⟩ w') => up w' _ _ hb r2
  have b3 := fun w' (hb : LR W ⟨ak, k, ao, an⟩ w') => up w' _ _ hb r3
  have b4 := fun w' (hb : LR W ⟨ak, k, ao, an⟩ w') => up w' _ _ hb r4
  have b5 := fun w' (hb : LR W ⟨ak, k, ao, an⟩ w') => up w' _ _ hb r5
  have b6 := fun w' (hb : LR W ⟨ak, k, ao, an⟩ w') => up w' _ _ hb r6
  clear up c0 r0 r1 r2 r3 r4 r5 r6
  go_region_held3 (fun w' => LR W ⟨ak, k, ao, an⟩ w') (first | (with_reducible assumption) | (with_reducible ((repeat (first | refine LR.drew ?_ | refine LR.alloc ?_ _ | refine LR.set ?_ (by assumption) _ _)); assumption)))
    (first
      | (go_at_call 15; (with_reducible refine (HONE.out _ (LR.b (a := ⟨ak, k, ao, an⟩) (by assumption))).mono ?_); rintro e w3 ⟨p3, c3, rfl, hs3, hb3⟩; have hq3 : LR W ⟨ak, k, ao, an⟩ w3 := LR.below (by assumption) hb3; have hzB := hq3.lt; have hC3 : CeBlk w3 W2.heap.size ce0 none 0 := (hb3.block _ (by simp)).trans (heap_alloc_new W2 _); have HS3 := hid hs3; clear hs3 hb3; obtain ⟨⟨y0, y1, y2, y3, y4, y5, y6⟩, yf, yl⟩ := hC3.facts; clear hC3; dsimp only [ce0, List.length_nil] at y0 y1 y2 y3 y4 y5 y6)
      | (go_at_call 15; (with_reducible refine (HONE.out _ (LR.b (a := ⟨ak, k, ao, an⟩) (by assumption))).mono ?_); rintro e w3 ⟨p3, c3, rfl, hs3, hb3⟩; have hq3 : LR W ⟨ak, k, ao, an⟩ w3 := LR.below (by assumption) hb3; have hzB := hq3.lt; have HS3 := hid hs3; clear hs3 hb3))
  all_goals
    go_wp2_with fail
    go_ret
    exact ⟨rfl, LR.b (a := ⟨ak, k, ao, an⟩) (by assumption)⟩
theorem rwaits_any (H : MMach W base d hdR S fp) (wk : Int) (a : Ac) :
    Calls Try.prog 29 #[.pointer (some ⟨d, 0, none⟩), i64 wk, a.val] W fun e w' => e = .returned (.bool ((S.look wk a).2.2 == 231)) ∧ Below W.heap.size W w' := by
  obtain ⟨v, ys, H⟩ := H
  by_cases h : a.cell < 0 ∨ (ys.length : Int) ≤ a.cell
  · exact rwaits_no H wk a h
  · exact rwaits_yes H wk a a.cell.toNat (by omega) (by omega)
end Go.Proofs.Ytfpgdaefdpjcmaa
