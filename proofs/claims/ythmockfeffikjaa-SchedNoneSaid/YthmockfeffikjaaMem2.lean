/-
  look, Waits, Steps of the code's memory.
-/
import Derived.Test.YthmockfeffikjaaMem1
import Derived.Deep.RegionHeld3
import Derived.Deep.DeepCutAuto
import Derived.BigQuiet
import Derived.WalkMore
namespace Go.Proofs.Ythmockfeffikjaa
open Go.RowKit
theorem below_more {B : Nat} {W w1 w2 : World} (h2 : Below w1.heap.size w1 w2) (h1 : Below B W w1) (hB : B ≤ W.heap.size) : Below B W w2 := h1.trans (h2.mono (Nat.le_trans hB h1.size))
variable {W : World} {base d : Nat} {v : Value} {ys : List CeR} {S : Mem} {fp : Nat → Prop}

/-- What holds while a region goes on whose last store goes to the block behind the parameter's. -/
structure LS (W : World) (a : Ac) (w' : World) : Prop where
  b : Below W.heap.size W w'
  a : AcBlk w' W.heap.size a
  z : W.heap.size + 2 ≤ w'.heap.size
theorem LS.drew {a : Ac} {w' : World} (h : LS W a w') : LS W a w'.drew := ⟨h.b.drew, h.a, h.z⟩
theorem LS.below {a : Ac} {w' w2 : World} (h : LS W a w') (hb : Below w'.heap.size w' w2) : LS W a w2 := ⟨h.b.trans (hb.mono (by have := h.z; omega)), h.a.below hb, Nat.le_trans h.z hb.size⟩
theorem LS.set {a : Ac} {w' : World} (h : LS W a w') (o : Nat) (u : Value) : LS W a (w'.setCell ⟨W.heap.size + 1, o, none⟩ u) := by
  refine ⟨h.b.setCell (by simp) _, ?_, by simpa using h.z⟩
  have : (w'.setCell ⟨W.heap.size + 1, o, none⟩ u).heap[W.heap.size]? = w'.heap[W.heap.size]? := Below.heap_setCell _ _ _ _ (by show W.heap.size ≠ W.heap.size + 1; omega)
  exact this.trans h.a
/-- The block of the code's memory, and of the document's. -/
def hdM (v : Value) (n : Int) : Obj := .cells #[.bool true, v, i64 n] 98 (0, 0)
def hdR (v : Value) (n : Int) : Obj := .cells #[v, i64 n] 89 (0, 0)
theorem hdM_cells {n : Int} (h : W.heap[d]? = some (hdM v n)) : W.cell? ⟨d, 0, none⟩ = some (.bool true) ∧ W.cell? ⟨d, 1, none⟩ = some v ∧ W.cell? ⟨d, 2, none⟩ = some (i64 n) := ⟨cell_of_row W d 0 _ _ _ h, cell_of_row W d 1 _ _ _ h, cell_of_row W d 2 _ _ _ h⟩
theorem hdR_cells {n : Int} (h : W.heap[d]? = some (hdR v n)) : W.cell? ⟨d, 0, none⟩ = some v ∧ W.cell? ⟨d, 1, none⟩ = some (i64 n) := ⟨cell_of_row W d 0 _ _ _ h, cell_of_row W d 1 _ _ _ h⟩

set_option maxRecDepth 100000 in
set_option maxHeartbeats 2000000 in
theorem look_no (H : MemIs W base d hdM v ys S fp) (wk : Int) (a : Ac) (hno : a.cell < 0 ∨ (ys.length : Int) ≤ a.cell) :
    Calls Try.prog 52 #[.pointer (some ⟨d, 0, none⟩), i64 wk, a.val] W (CeTellL (S.look wk a).1 [i64 (S.look wk a).2.1, i64 (S.look wk a).2.2] W) := by
  rw [H.look_no hno]
  obtain ⟨c0, c1, _⟩ := hdM_cells H.head
  have hld := (Array.getElem?_eq_some_iff.1 H.head).1
  obtain ⟨p, c, rfl, hr⟩ := own_shape H.own
  obtain ⟨ak, ac, ao, an⟩ := a
  dsimp only at hno
  unfold Ac.val
  dsimp only
  have hld1 : d < W.heap.size + 1 := by omega
  have hlen : ys.length ≤ maxLen := by
    rcases H.own.2 with ⟨_, h⟩ | ⟨_, cap, _, _, _, _, h1, h2, _⟩ <;> omega
  unfold maxLen at hlen
  clear hr H
  by_cases h0 : ac < 0
  · have e1 : decide (ac < 0) = true := by simpa using h0
    clear hno
    go_enter Try.func52, Try.ntmps52
    go_upto_region 3 with (fail)
    go_quiet (fail)
    go_wp2_with fail
    exact bodyPost_ret (v := .tuple #[ce0.val none 0, i64 0, i64 230]) (by simp [results, Try.results52, go_sem, ce0, Ce.val]) rfl (by
      refine ⟨none, 0, rfl, slat_nil _, fun q hq => (by cases hq), ?_⟩
      repeat (refine Below.setCell ?_ (by simp) _)
      exact below_drewN (((Below.refl _ _).alloc (Nat.le_refl _) _).alloc (by simp) _) _)
  · have e1 : decide (ac < 0) = false := by simpa using h0
    have e2 : decide ((ys.length : Int) ≤ ac) = true := by simp; omega
    go_enter Try.func52, Try.ntmps52
    go_upto_region 3 with (fail)
    go_quiet (fail)
    go_wp2_with fail
    exact bodyPost_ret (v := .tuple #[ce0.val none 0, i64 0, i64 230]) (by simp [results, Try.results52, go_sem, ce0, Ce.val]) rfl (by
      refine ⟨none, 0, rfl, slat_nil _, fun q hq => (by cases hq), ?_⟩
      repeat (refine Below.setCell ?_ (by simp) _)
      exact below_drewN (((Below.refl _ _).alloc (Nat.le_refl _) _).alloc (by simp) _) _)

set_option maxRecDepth 100000 in
set_option maxHeartbeats 4000000 in
theorem look_yes (H : MemIs W base d hdM v ys S fp) (wk : Int) (a : Ac) (k : Nat) (hk : k < ys.length) (he : a.cell = k) :
    Calls Try.prog 52 #[.pointer (some ⟨d, 0, none⟩), i64 wk, a.val] W (CeTellL (S.look wk a).1 [i64 (S.look wk a).2.1, i64 (S.look wk a).2.2] W) := by
  rw [H.look hk he]
  obtain ⟨c0, c1, _⟩ := hdM_cells H.head
  have hld := (Array.getElem?_eq_some_iff.1 H.head).1
  have hy := List.getElem_mem hk
  have hsl := H.sl _ hy
  have hcm := ok_came (H.ok _ hy)
  obtain ⟨g, c, rfl, hlg⟩ := own_block H.own (by omega)
  have hr : Row W (some ⟨g, 0, none⟩) (ceRow ys) := by
    obtain ⟨p, c', e, hr⟩ := own_shape H.own
    injection e with e1; rw [e1]; exact hr
  obtain ⟨r0, r1, r2, r3, r4, r5, r6⟩ := ce_cells hr k hk
  simp only [Nat.zero_add] at r0 r1 r2 r3 r4 r5 r6
  have HONE := hid (fun w1 (hb : Below W.heap.size W w1) => one_any ys[k].x ys[k].p ys[k].c wk a w1 (hsl.below hb) (by omega))
  obtain ⟨ak, ac, ao, an⟩ := a
  dsimp only at he
  subst he
  have hlen : ys.length ≤ maxLen := by
    rcases H.own.2 with ⟨_, h⟩ | ⟨_, cap, _, _, _, _, h1, h2, _⟩ <;> omega
  unfold maxLen at hlen
  generalize ys[k] = y at *
  obtain ⟨⟨kind, n, owner, need, came, turns, there⟩, p, c2⟩ := y
  dsimp only at *
  generalize oneP ⟨kind, n, owner, need, came, turns, there⟩ wk ⟨ak, k, ao, an⟩ = r at HONE ⊢
  obtain ⟨⟨kind', n', owner', need', came', turns', there'⟩, V, E⟩ := r
  unfold CeTellL Ce.val Ac.val at HONE
  unfold Ac.val
  dsimp only [List.cons_append, List.nil_append] at *
  have hkI : (k : Int) < ys.length := by omega
  have e1 : decide ((k : Int) < 0) = false := by simp
  have e2 : decide ((ys.length : Int) ≤ k) = false := by simp; omega
  clear hr H hsl hcm hy
  have hld1 : d < W.heap.size + 1 := by omega
  go_enter Try.func52, Try.ntmps52
  go_upto_region 3 with (fail)
  go_quiet (fail)
  go_upto_region 5 with (fail)
  obtain ⟨W1, hW1⟩ : ∃ W1, W1 = (W.alloc (.cells #[i64 ak, i64 k, i64 ao, i64 an] 34)).alloc (.cells #[.int .i64 0, .int .i64 0, .int .i64 0, .int .i64 0, .slice none 0 0, .int .i64 0, .bool false] 30) := ⟨_, rfl⟩
  have hb1 : Below W.heap.size W W1 := by rw [hW1]; exact ((Below.refl _ _).alloc (Nat.le_refl _) _).alloc (by simp) _
  have hz1 : W1.heap.size = W.heap.size + 2 := by rw [hW1]; simp
  have hA : AcBlk W1 W.heap.size ⟨ak, k, ao, an⟩ := by rw [hW1]; exact (acblk_new W ⟨ak, k, ao, an⟩).alloc _
  have hC : CeBlk W1 (W.heap.size + 1) ce0 none 0 := by
    rw [hW1]
    have := ceblk_new (W.alloc (.cells #[i64 ak, i64 k, i64 ao, i64 an] 34)) ce0 none 0
    rwa [World.size_alloc] at this
  rw [← hW1]
  generalize hW2 : W1.drewN nq = W2
  have hB2 : Below W.heap.size W W2 := by rw [← hW2]; exact below_drewN hb1 _
  have hA2 : AcBlk W2 W.heap.size ⟨ak, k, ao, an⟩ := by rw [← hW2]; exact hA
  have hC2 : CeBlk W2 (W.heap.size + 1) ce0 none 0 := by rw [← hW2]; exact hC
  have hz2 : W2.heap.size = W.heap.size + 2 := by rw [← hW2]; exact hz1
  clear hW2 hW1 hA hC hb1 hz1
  have HB2 := hid hB2
  have HA2 := hid hA2
  have HC2 := hid hC2
  have HZ2 := hid hz2
  have hzz : W.heap.size + 1 < W2.heap.size := by omega
  clear hA2 hC2 hz2
  have HLS : Hid (LS W ⟨ak, k, ao, an⟩ W2) := ⟨HB2.out, HA2.out, by rw [HZ2.out]; exact Nat.le_refl _⟩
  have q0 : ∀ w', LS W ⟨ak, k, ao, an⟩ w' → w'.cell? ⟨d, 1, none⟩ = some (.slice (some ⟨g, 0, none⟩) ys.length c) := fun w' hb => (hb.b.cell (p := ⟨d, 1, none⟩) hld).trans c1
  have a0 : ∀ w', LS W ⟨ak, k, ao, an⟩ w' → w'.cell? ⟨W.heap.size, 0, none⟩ = some (i64 ak) := fun w' hb => hb.a.facts.1.1
  have a1 : ∀ w', LS W ⟨ak, k, ao, an⟩ w' → w'.cell? ⟨W.heap.size, 1, none⟩ = some (i64 k) := fun w' hb => hb.a.facts.1.2.1
  have a2 : ∀ w', LS W ⟨ak, k, ao, an⟩ w' → w'.cell? ⟨W.heap.size, 2, none⟩ = some (i64 ao) := fun w' hb => hb.a.facts.1.2.2.1
  have a3 : ∀ w', LS W ⟨ak, k, ao, an⟩ w' → w'.cell? ⟨W.heap.size, 3, none⟩ = some (i64 an) := fun w' hb => hb.a.facts.1.2.2.2
  have hglt : g < W.heap.size := hlg.2.1
  have up : ∀ w' (j : Nat) (u : Value), LS W ⟨ak, k, ao, an⟩ w' → W.cell? ⟨g, j, none⟩ = some u → w'.cell? ⟨g, j, none⟩ = some u := fun w' j u hb h => (hb.b.cell (p := ⟨g, j, none⟩) hglt).trans h
  have b0 := fun w' (hb : LS W ⟨ak, k, ao, an⟩ w') => up w' _ _ hb r0
  have b1 := fun w' (hb : LS W ⟨ak, k, ao, an⟩ w') => up w' _ _ hb r1
  have b2 := fun w' (hb : LS W ⟨ak, k, ao, an⟩ w') => up w' _ _ hb r2
  have b3 := fun w' (hb : LS W ⟨ak, k, ao, an⟩ w') => up w' _ _ hb r3
  have b4 := fun w' (hb : LS W ⟨ak, k, ao, an⟩ w') => up w' _ _ hb r4
  have b5 := fun w' (hb : LS W ⟨ak, k, ao, an⟩ w') => up w' _ _ hb r5
  have b6 := fun w' (hb : LS W ⟨ak, k, ao, an⟩ w') => up w' _ _ hb r6
  clear up c0 c1 r0 r1 r2 r3 r4 r5 r6
  go_region_held3 (fun w' => LS W ⟨ak, k, ao, an⟩ w') (first | (with_reducible assumption) | (with_reducible exact HLS.out) | (with_reducible exact HLS.out.drew) | (with_reducible ((repeat (refine LS.set ?_ _ _)); assumption)))
    (first
      | (go_at_call 65; (with_reducible refine (HONE.out _ (by first | exact HB2.out.drew | exact HB2.out)).mono ?_); rintro e w3 ⟨p3, c3, rfl, hs3, hl3, hb3⟩; have HS3 := hid hs3; have HL3 := hid hl3; have hq3 : LS W ⟨ak, k, ao, an⟩ w3 := LS.below (by first | exact HLS.out.drew | exact HLS.out) hb3; have hC3 : CeBlk w3 (W.heap.size + 1) ce0 none 0 := CeBlk.belowB HC2.out (show Below W2.heap.size W2 w3 from ⟨hb3.os, hb3.tape, hb3.output, hb3.size, hb3.block⟩) hzz; clear hs3 hl3 hb3; obtain ⟨⟨y0, y1, y2, y3, y4, y5, y6⟩, yf, yl⟩ := hC3.facts; clear hC3; dsimp only [ce0, List.length_nil] at y0 y1 y2 y3 y4 y5 y6))
  go_wp2_with fail
  have hz2 : W2.heap.size = W.heap.size + 2 := HZ2.out
  have hl3 : ∀ q, p3 = some q → W.heap.size + 2 ≤ q.block ∧ q.block < w3.heap.size := fun q hq => by
    have := HL3.out q hq
    have e : W2.drew.heap.size = W2.heap.size := rfl
    first | (rw [e] at this; omega) | omega
  exact bodyPost_ret (v := .tuple #[(Ce.mk kind' n' owner' need' came' turns' there').val p3 c3, i64 V, i64 E]) (by simp [results, Try.results52, go_sem, Ce.val, y0, y1, y2, y3, y4, y5, y6]) rfl (by
    refine ⟨p3, c3, rfl, ?_, fun q hq => ⟨by have := hl3 q hq; omega, by have := hl3 q hq; simp; omega⟩, ?_⟩
    · repeat (refine SlAt.set ?_ _ _ _ (fun q hq e => by have := hl3 q hq; omega))
      exact HS3.out
    · repeat (refine Below.setCell ?_ (by simp) _)
      exact hq3.b)
theorem look_any (H : MemIs W base d hdM v ys S fp) (wk : Int) (a : Ac) :
    Calls Try.prog 52 #[.pointer (some ⟨d, 0, none⟩), i64 wk, a.val] W (CeTellL (S.look wk a).1 [i64 (S.look wk a).2.1, i64 (S.look wk a).2.2] W) := by
  by_cases h : a.cell < 0 ∨ (ys.length : Int) ≤ a.cell
  · exact look_no H wk a h
  · exact look_yes H wk a a.cell.toNat (by omega) (by omega)
end Go.Proofs.Ythmockfeffikjaa
