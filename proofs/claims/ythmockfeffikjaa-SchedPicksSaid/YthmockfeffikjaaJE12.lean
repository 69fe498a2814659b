/-
  A memory as the walks have it, and what is made of it, in plain words.
  look, Waits, Steps of the code's memory.
  Waits of the code's memory.
  Do of the code's memory.
  A memory behind a store into one of its cells, in plain words.
-/
import Derived.Test.YthmockfeffikjaaJE9
import Derived.Test.YthmockfeffikjaaJE11
import Derived.Test.YthmockfeffikjaaJE4
import Derived.Deep.RegionHeld3
import Derived.Deep.DeepCutAuto
import Derived.BigQuiet
import Derived.WalkMore
namespace Go.Proofs.Ythmockfeffikjaa
open Go.RowKit

structure Mem where
  cs : List Ce
  steps : Int
variable {W W' : World} {base d : Nat} {hd : Value → Int → Obj} {v : Value} {ys : List CeR} {S : Mem} {fp fp' : Nat → Prop}
/-- What an access comes to, not done yet: the cell, the answer, what is wrong. -/
def Mem.look (S : Mem) (wk : Int) (a : Ac) : Ce × Int × Int :=
  if a.cell < 0 ∨ (S.cs.length : Int) ≤ a.cell then (ce0, 0, 230) else oneP (S.cs.getD a.cell.toNat ce0) wk a
def Mem.step (S : Mem) (wk : Int) (a : Ac) : Mem :=
  if (S.look wk a).2.2 = 0 then ⟨S.cs.set a.cell.toNat (S.look wk a).1, IntKind.i64.wrap (S.steps + 1)⟩ else S
/-- What Do tells. -/
def Mem.tell (S : Mem) (wk : Int) (a : Ac) : Int × Int :=
  if (S.look wk a).2.2 = 0 then ((S.look wk a).2.1, 0) else (0, (S.look wk a).2.2)
theorem Mem.step_len (S : Mem) (wk : Int) (a : Ac) : (S.step wk a).cs.length = S.cs.length := by unfold Mem.step; split <;> simp

/-- All that is not in fp lies on. -/
structure Turn (fp : Nat → Prop) (w w' : World) : Prop where
  os : w'.os = w.os
  tape : w'.tape = w.tape
  output : w'.output = w.output
  size : w.heap.size ≤ w'.heap.size
  block : ∀ k, k < w.heap.size → ¬ fp k → w'.heap[k]? = w.heap[k]?
theorem Turn.of_below (h : Below W.heap.size W W') : Turn fp W W' := ⟨h.os, h.tape, h.output, h.size, fun k hk _ => h.block k hk⟩
theorem own_blk {w w' : World} {e : TypeId} {size n : Nat} {v : Value} {xs : List Value} (h : w.ownsRow base e size v n xs) (hk : ∀ g, v.ownBlock = some g → w'.heap[g]? = w.heap[g]?) : w'.ownsRow base e size v n xs := by
  refine ⟨h.1, ?_⟩
  rcases h.2 with hn' | ⟨g, cap, cur, rfl, hge, hg, rest⟩
  · exact .inl hn'
  · exact .inr ⟨g, cap, cur, rfl, hge, (hk g rfl).trans hg, rest⟩
theorem SlAt.blk {p : Option Addr} {c : Nat} {l : List Int} (h : SlAt W p c l) (hk : ∀ q, p = some q → W'.heap[q.block]? = W.heap[q.block]?) : SlAt W' p c l := by
  refine ⟨h.1, h.2.1, h.2.2.1, fun hne => ?_⟩
  obtain ⟨b, o, rfl, hc⟩ := h.2.2.2 hne
  exact ⟨b, o, rfl, fun i hi => by rw [← hc i hi]; exact World.cell?_of_block (a := ⟨b, o + i, none⟩) (hk ⟨b, o, none⟩ rfl)⟩

structure MemIs (W : World) (base d : Nat) (hd : Value → Int → Obj) (v : Value) (ys : List CeR) (S : Mem) (fp : Nat → Prop) : Prop where
  cs : S.cs = ys.map CeR.x
  ok : ∀ y ∈ ys, okP y.x = true
  head : W.heap[d]? = some (hd v S.steps)
  own : W.ownsRow base 30 7 v ys.length (ceRow ys)
  sl : ∀ y ∈ ys, SlAt W y.p y.c y.x.came
  fd : fp d
  fv : ∀ g, v.ownBlock = some g → fp g
  fs : ∀ y ∈ ys, ∀ q, y.p = some q → fp q.block
  nd : v.ownBlock ≠ some d
  ap : ∀ y ∈ ys, ∀ q, y.p = some q → q.block ≠ d ∧ v.ownBlock ≠ some q.block
  lt : ∀ k, fp k → k < W.heap.size
  bd : base ≤ d
theorem MemIs.kept (H : MemIs W base d hd v ys S fp) (hk : ∀ k, fp k → W'.heap[k]? = W.heap[k]?) (hs : W.heap.size ≤ W'.heap.size) : MemIs W' base d hd v ys S fp :=
  ⟨H.cs, H.ok, (hk d H.fd).trans H.head, own_blk H.own (fun g hg => hk g (H.fv g hg)), fun y hy => (H.sl y hy).blk (fun q hq => hk _ (H.fs y hy q hq)), H.fd, H.fv, H.fs, H.nd, H.ap, fun k h => Nat.lt_of_lt_of_le (H.lt k h) hs, H.bd⟩
theorem MemIs.below (H : MemIs W base d hd v ys S fp) (hb : Below W.heap.size W W') : MemIs W' base d hd v ys S fp := H.kept (fun k hk => hb.block k (H.lt k hk)) hb.size
def MMach (W : World) (base d : Nat) (hd : Value → Int → Obj) (S : Mem) (fp : Nat → Prop) : Prop := ∃ v ys, MemIs W base d hd v ys S fp
theorem MMach.kept (H : MMach W base d hd S fp) (hk : ∀ k, fp k → W'.heap[k]? = W.heap[k]?) (hs : W.heap.size ≤ W'.heap.size) : MMach W' base d hd S fp := by
  obtain ⟨v, ys, h⟩ := H; exact ⟨v, ys, h.kept hk hs⟩
theorem MMach.below (H : MMach W base d hd S fp) (hb : Below W.heap.size W W') : MMach W' base d hd S fp := by
  obtain ⟨v, ys, h⟩ := H; exact ⟨v, ys, h.below hb⟩
theorem MemIs.len (H : MemIs W base d hd v ys S fp) : S.cs.length = ys.length := by rw [H.cs, List.length_map]
theorem MemIs.look (H : MemIs W base d hd v ys S fp) {wk : Int} {a : Ac} {k : Nat} (hk : k < ys.length) (e : a.cell = k) : S.look wk a = oneP ys[k].x wk a := by
  unfold Mem.look
  rw [if_neg (by rw [H.len]; omega), e, Int.toNat_natCast]
  congr 1
  rw [H.cs, List.getD_eq_getElem?_getD, List.getElem?_map, List.getElem?_eq_getElem hk]; rfl
theorem MemIs.look_no (H : MemIs W base d hd v ys S fp) {wk : Int} {a : Ac} (e : a.cell < 0 ∨ (ys.length : Int) ≤ a.cell) : S.look wk a = (ce0, 0, 230) := by
  unfold Mem.look
  rw [if_pos (by rw [H.len]; exact e)]

/-- The seven cells of element k, stored anew. -/
theorem ceRow_set (ys : List CeR) (k : Nat) (hk : k < ys.length) (y : CeR) :
    (((((((ceRow ys).set (k * 7) (i64 y.x.kind)).set (k * 7 + 1) (i64 y.x.n)).set (k * 7 + 2) (i64 y.x.owner)).set (k * 7 + 3) (i64 y.x.need)).set (k * 7 + 4) (.slice y.p y.x.came.length y.c)).set (k * 7 + 5) (i64 y.x.turns)).set (k * 7 + 6) (.bool y.x.there) = ceRow (ys.set k y) := by
  induction ys generalizing k with
  | nil => cases hk
  | cons a l ih =>
    cases k with
    | zero => simp [ceRow, CeR.cells]
    | succ k =>
      have := ih k (by simpa using hk)
      simp only [ceRow, List.flatMap_cons, List.set_cons_succ] at this ⊢
      rw [← this]
      have e : ∀ j, (k + 1) * 7 + j = (CeR.cells a).length + (k * 7 + j) := fun j => by show _ = 7 + _; omega
      have e0 : (k + 1) * 7 = (CeR.cells a).length + k * 7 := e 0
      rw [e0, show (CeR.cells a).length + k * 7 + 1 = (CeR.cells a).length + (k * 7 + 1) from by omega, show (CeR.cells a).length + k * 7 + 2 = (CeR.cells a).length + (k * 7 + 2) from by omega, show (CeR.cells a).length + k * 7 + 3 = (CeR.cells a).length + (k * 7 + 3) from by omega, show (CeR.cells a).length + k * 7 + 4 = (CeR.cells a).length + (k * 7 + 4) from by omega, show (CeR.cells a).length + k * 7 + 5 = (CeR.cells a).length + (k * 7 + 5) from by omega, show (CeR.cells a).length + k * 7 + 6 = (CeR.cells a).length + (k * 7 + 6) from by omega]
      simp only [List.set_append_right _ _ (Nat.le_add_right _ _), Nat.add_sub_cancel_left]
end Go.Proofs.Ythmockfeffikjaa
namespace Go.Proofs.Ythmockfeffikjaa
open Go.RowKit
theorem below_more {B : Nat} {W w1 w2 : World} (h2 : Below w1.heap.size w1 w2) (h1 : Below B W w1) (hB : B ≤ W.heap.size) : Below B W w2 := h1.trans (h2.mono (Nat.le_trans hB h1.size))
variable {W : World} {base d : Nat} {v : Value} {ys : List CeR} {S : Mem} {fp : Nat → Prop}

/-- What holds while a region goes on whose last store goes to the block behind the parameter's. -/
structure LS (W : World) (a : Ac) (w' : World) : Prop where
  b : Below W.heap.size W w'
  a : AcBlk w' W.heap.size a
  z : W.heap.size + 2 ≤ w'.heap.size
theorem LS.drew {a : Ac} {w' : World} (h : LS W a w') : LS W a w'.drew := ⟨h.b.drew, h.a, h.z⟩
theorem LS.below {a : Ac} {w' w2 : World} (h : LS W a w') (hb : Below w'.heap.size w' w2) : LS W a w2 := ⟨h.b.trans (hb.mono (by have := h.z; omega)), h.a.below hb, Nat.le_trans h.z hb.size⟩
theorem LS.set {a : Ac} {w' : World} (h : LS W a w') (o : Nat) (u : Value) : LS W a (w'.setCell ⟨W.heap.size + 1, o, none⟩ u) := by
  refine ⟨h.b.setCell (by simp) _, ?_, by simpa using h.z⟩
  have : (w'.setCell ⟨W.heap.size + 1, o, none⟩ u).heap[W.heap.size]? = w'.heap[W.heap.size]? := Below.heap_setCell _ _ _ _ (by show W.heap.size ≠ W.heap.size + 1; omega)
  exact this.trans h.a
/-- The block of the code's memory, and of the document's. -/
def hdM (v : Value) (n : Int) : Obj := .cells #[.bool true, v, i64 n] 98 (0, 0)
def hdR (v : Value) (n : Int) : Obj := .cells #[v, i64 n] 89 (0, 0)
theorem hdM_cells {n : Int} (h : W.heap[d]? = some (hdM v n)) : W.cell? ⟨d, 0, none⟩ = some (.bool true) ∧ W.cell? ⟨d, 1, none⟩ = some v ∧ W.cell? ⟨d, 2, none⟩ = some (i64 n) := ⟨cell_of_row W d 0 _ _ _ h, cell_of_row W d 1 _ _ _ h, cell_of_row W d 2 _ _ _ h⟩
theorem hdR_cells {n : Int} (h : W.heap[d]? = some (hdR v n)) : W.cell? ⟨d, 0, none⟩ = some v ∧ W.cell? ⟨d, 1, none⟩ = some (i64 n) := ⟨cell_of_row W d 0 _ _ _ h, cell_of_row W d 1 _ _ _ h⟩

set_option maxRecDepth 100000 in
set_option maxHeartbeats 2000000 in
theorem look_no (H : MemIs W base d hdM v ys S fp) (wk : Int) (a : Ac) (hno : a.cell < 0 ∨ (ys.length : Int) ≤ a.cell) :
    Calls Try.prog 52 #[.pointer (some ⟨d, 0, none⟩), i64 wk, a.val] W (CeTellL (S.look wk a).1 [i64 (S.look wk a).2.1, i64 (S.look wk a).2.2] W) := by
  rw [H.look_no hno]
  obtain ⟨c0, c1, _⟩ := hdM_cells H.head
  have hld := (Array.getElem?_eq_some_iff.1 H.head).1
  obtain ⟨p, c, rfl, hr⟩ := own_shape H.own
  obtain ⟨ak, ac, ao, an⟩ := a
  dsimp only at hno
  unfold Ac.val
  dsimp only
  have hld1 : d < W.heap.size + 1 := by omega
  have hlen : ys.length ≤ maxLen := by
    rcases H.own.2 with ⟨_, h⟩ | ⟨_, cap, _, _, _, _, h1, h2, _⟩ <;> omega
  unfold maxLen at hlen
  clear hr H
  by_cases h0 : ac < 0
  · have e1 : decide (ac < 0) = true := by simpa using h0
    clear hno
    go_enter Try.func52, Try.ntmps52
    go_upto_region 3 with (fail)
    go_quiet (fail)
    go_wp2_with fail
    exact bodyPost_ret (v := .tuple #[ce0.val none 0, i64 0, i64 230]) (by simp [results, Try.results52, go_sem, ce0, Ce.val]) rfl (by
      refine ⟨none, 0, rfl, slat_nil _, fun q hq => (by cases hq), ?_⟩
      repeat (refine Below.setCell ?_ (by simp) _)
      exact below_drewN (((Below.refl _ _).alloc (Nat.le_refl _) _).alloc (by simp) _) _)
  · have e1 : decide (ac < 0) = false := by simpa using h0
    have e2 : decide ((ys.length : Int) ≤ ac) = true := by simp; omega
    go_enter Try.func52, Try.ntmps52
    go_upto_region 3 with (fail)
    go_quiet (fail)
    go_wp2_with fail
    exact bodyPost_ret (v := .tuple #[ce0.val none 0, i64 0, i64 230]) (by simp [results, Try.results52, go_sem, ce0, Ce.val]) rfl (by
      refine ⟨none, 0, rfl, slat_nil _, fun q hq => (by cases hq), ?_⟩
      repeat (refine Below.setCell ?_ (by simp) _)
      exact below_drewN (((Below.refl _ _).alloc (Nat.le_refl _) _).alloc (by simp) _) _)

set_option maxRecDepth 100000 in
set_option maxHeartbeats 4000000 in
theorem look_yes (H : MemIs W base d hdM v ys S fp) (wk : Int) (a : Ac) (k : Nat) (hk : k < ys.length) (he : a.cell = k) :
    Calls Try.prog 52 #[.pointer (some ⟨d, 0, none⟩), i64 wk, a.val] W (CeTellL (S.look wk a).1 [i64 (S.look wk a).2.1, i64 (S.look wk a).2.2] W) := by
  rw [H.look hk he]
  obtain ⟨c0, c1, _⟩ := hdM_cells H.head
  have hld := (Array.getElem?_eq_some_iff.1 H.head).1
  have hy := List.getElem_mem hk
  have hsl := H.sl _ hy
  have hcm := ok_came (H.ok _ hy)
  obtain ⟨g, c, rfl, hlg⟩ := own_block H.own (by omega)
  have hr : Row W (some ⟨g, 0, none⟩) (ceRow ys) := by
    obtain ⟨p, c', e, hr⟩ := own_shape H.own
    injection e with e1; rw [e1]; exact hr
  obtain ⟨r0, r1, r2, r3, r4, r5, r6⟩ := ce_cells hr k hk
  simp only [Nat.zero_add] at r0 r1 r2 r3 r4 r5 r6
  have HONE := hid (fun w1 (hb : Below W.heap.size W w1) => one_any ys[k].x ys[k].p ys[k].c wk a w1 (hsl.below hb) (by omega))
  obtain ⟨ak, ac, ao, an⟩ := a
  dsimp only at he
  subst he
  have hlen : ys.length ≤ maxLen := by
    rcases H.own.2 with ⟨_, h⟩ | ⟨_, cap, _, _, _, _, h1, h2, _⟩ <;> omega
  unfold maxLen at hlen
  generalize ys[k] = y at *
  obtain ⟨⟨kind, n, owner, need, came, turns, there⟩, p, c2⟩ := y
  dsimp only at *
  generalize oneP ⟨kind, n, owner, need, came, turns, there⟩ wk ⟨ak, k, ao, an⟩ = r at HONE ⊢
  obtain ⟨⟨kind', n', owner', need', came', turns', there'⟩, V, E⟩ := r
  unfold CeTellL Ce.val Ac.val at HONE
  unfold Ac.val
  dsimp only [List.cons_append, List.nil_append] at *
  have hkI : (k : Int) < ys.length := by omega
  have e1 : decide ((k : Int) < 0) = false := by simp
  have e2 : decide ((ys.length : Int) ≤ k) = false := by simp; omega
  clear hr H hsl hcm hy
  have hld1 : d < W.heap.size + 1 := by omega
  go_enter Try.func52, Try.ntmps52
  go_upto_region 3 with (fail)
  go_quiet (fail)
  go_upto_region 5 with (fail)
  obtain ⟨W1, hW1⟩ : ∃ W1, W1 = (W.alloc (.cells #[i64 ak, i64 k, i64 ao, i64 an] 34)).alloc (.cells #[.int .i64 0, .int .i64 0, .int .i64 0, .int .i64 0, .slice none 0 0, .int .i64 0, .bool false] 30) := ⟨_, rfl⟩
  have hb1 : Below W.heap.size W W1 := by rw [hW1]; exact ((Below.refl _ _).alloc (Nat.le_refl _) _).alloc (by simp) _
  have hz1 : W1.heap.size = W.heap.size + 2 := by rw [hW1]; simp
  have hA : AcBlk W1 W.heap.size ⟨ak, k, ao, an⟩ := by rw [hW1]; exact (acblk_new W ⟨ak, k, ao, an⟩).alloc _
  have hC : CeBlk W1 (W.heap.size + 1) ce0 none 0 := by
    rw [hW1]
    have := ceblk_new (W.alloc (.cells #[i64 ak, i64 k, i64 ao, i64 an] 34)) ce0 none 0
    rwa [World.size_alloc] at this
  rw [← hW1]
  generalize hW2 : W1.drewN nq = W2
  have hB2 : Below W.heap.size W W2 := by rw [← hW2]; exact below_drewN hb1 _
  have hA2 : AcBlk W2 W.heap.size ⟨ak, k, ao, an⟩ := by rw [← hW2]; exact hA
  have hC2 : CeBlk W2 (W.heap.size + 1) ce0 none 0 := by rw [← hW2]; exact hC
  have hz2 : W2.heap.size = W.heap.size + 2 := by rw [← hW2]; exact hz1
  clear hW2 hW1 hA hC hb1 hz1
  have HB2 := hid hB2
  have HA2 := hid hA2
  have HC2 := hid hC2
  have HZ2 := hid hz2
  have hzz : W.heap.size + 1 < W2.heap.size := by omega
  clear hA2 hC2 hz2
  have HLS : Hid (LS W ⟨ak, k, ao, an⟩ W2) := ⟨HB2.out, HA2.out, by rw [HZ2.out]; exact Nat.le_refl _⟩
  have q0 : ∀ w', LS W ⟨ak, k, ao, an⟩ w' → w'.cell? ⟨d, 1, none⟩ = some (.slice (some ⟨g, 0, none⟩) ys.length c) := fun w' hb => (hb.b.cell (p := ⟨d, 1, none⟩) hld).trans c1
  have a0 : ∀ w', LS W ⟨ak, k, ao, an⟩ w' → w'.cell? ⟨W.heap.size, 0, none⟩ = some (i64 ak) := fun w' hb => hb.a.facts.1.1
  have a1 : ∀ w', LS W ⟨ak, k, ao, an⟩ w' → w'.cell? ⟨W.heap.size, 1, none⟩ = some (i64 k) := fun w' hb => hb.a.facts.1.2.1
  have a2 : ∀ w', LS W ⟨ak, k, ao, an⟩ w' → w'.cell? ⟨W.heap.size, 2, none⟩ = some (i64 ao) := fun w' hb => hb.a.facts.1.2.2.1
  have a3 : ∀ w', LS W ⟨ak, k, ao, an⟩ w' → w'.cell? ⟨W.heap.size, 3, none⟩ = some (i64 an) := fun w' hb => hb.a.facts.1.2.2.2
  have hglt : g < W.heap.size := hlg.2.1
  have up : ∀ w' (j : Nat) (u : Value), LS W ⟨ak, k, ao, an⟩ w' → W.cell? ⟨g, j, none⟩ = some u → w'.cell? ⟨g, j, none⟩ = some u := fun w' j u hb h => (hb.b.cell (p := ⟨g, j, none⟩) hglt).trans h
  have b0 := fun w' (hb : LS W ⟨ak, k, ao, an⟩ w') => up w' _ _ hb r0
  have b1 := fun w' (hb : LS W ⟨ak, k, ao, an⟩ w') => up w' _ _ hb r1
  have b2 := fun w' (hb : LS W ⟨ak, k, ao, an⟩ w') => up w' _ _ hb r2
  have b3 := fun w' (hb : LS W ⟨ak, k, ao, an⟩ w') => up w' _ _ hb r3
  have b4 := fun w' (hb : LS W ⟨ak, k, ao, an⟩ w') => up w' _ _ hb r4
  have b5 := fun w' (hb : LS W ⟨ak, k, ao, an⟩ w') => up w' _ _ hb r5
  have b6 := fun w' (hb : LS W ⟨ak, k, ao, an⟩ w') => up w' _ _ hb r6
  clear up c0 c1 r0 r1 r2 r3 r4 r5 r6
  go_region_held3 (fun w' => LS W ⟨ak, k, ao, an⟩ w') (first | (with_reducible assumption) | (with_reducible exact HLS.out) | (with_reducible exact HLS.out.drew) | (with_reducible ((repeat (refine LS.set ?_ _ _)); assumption)))
    (first
      | (go_at_call 65; (with_reducible refine (HONE.out _ (by first | exact HB2.out.drew | exact HB2.out)).mono ?_); rintro e w3 ⟨p3, c3, rfl, hs3, hl3, hb3⟩; have HS3 := hid hs3; have HL3 := hid hl3; have hq3 : LS W ⟨ak, k, ao, an⟩ w3 := LS.below (by first | exact HLS.out.drew | exact HLS.out) hb3; have hC3 : CeBlk w3 (W.heap.size + 1) ce0 none 0 := CeBlk.belowB HC2.out (show Below W2.heap.size W2 w3 from ⟨hb3.os, hb3.tape, hb3.output, hb3.size, hb3.block⟩) hzz; clear hs3 hl3 hb3; obtain ⟨⟨y0, y1, y2, y3, y4, y5, y6⟩, yf, yl⟩ := hC3.facts; clear hC3; dsimp only [ce0, List.length_nil] at y0 y1 y2 y3 y4 y5 y6))
  go_wp2_with fail
  have hz2 : W2.heap.size = W.heap.size + 2 := HZ2.out
  have hl3 : ∀ q, p3 = some q → W.heap.size + 2 ≤ q.block ∧ q.block < w3.heap.size := fun q hq => by
    have := HL3.out q hq
    have e : W2.drew.heap.size = W2.heap.size := rfl
    first | (rw [e] at this; omega) | omega
  exact bodyPost_ret (v := .tuple #[(Ce.mk kind' n' owner' need' came' turns' there').val p3 c3, i64 V, i64 E]) (by simp [results, Try.results52, go_sem, Ce.val, y0, y1, y2, y3, y4, y5, y6]) rfl (by
    refine ⟨p3, c3, rfl, ?_, fun q hq => ⟨by have := hl3 q hq; omega, by have := hl3 q hq; simp; omega⟩, ?_⟩
    · repeat (refine SlAt.set ?_ _ _ _ (fun q hq e => by have := hl3 q hq; omega))
      exact HS3.out
    · repeat (refine Below.setCell ?_ (by simp) _)
      exact hq3.b)
theorem look_any (H : MemIs W base d hdM v ys S fp) (wk : Int) (a : Ac) :
    Calls Try.prog 52 #[.pointer (some ⟨d, 0, none⟩), i64 wk, a.val] W (CeTellL (S.look wk a).1 [i64 (S.look wk a).2.1, i64 (S.look wk a).2.2] W) := by
  by_cases h : a.cell < 0 ∨ (ys.length : Int) ≤ a.cell
  · exact look_no H wk a h
  · exact look_yes H wk a a.cell.toNat (by omega) (by omega)
end Go.Proofs.Ythmockfeffikjaa
namespace Go.Proofs.Ythmockfeffikjaa
open Go.RowKit
variable {W : World} {base d : Nat} {v : Value} {ys : List CeR} {S : Mem} {fp : Nat → Prop}

set_option maxRecDepth 100000 in
set_option maxHeartbeats 2000000 in
theorem mwaits_any (H : MMach W base d hdM S fp) (wk : Int) (a : Ac) :
    Calls Try.prog 44 #[.pointer (some ⟨d, 0, none⟩), i64 wk, a.val] W fun e w' => e = .returned (.bool ((S.look wk a).2.2 == 231)) ∧ Below W.heap.size W w' := by
  obtain ⟨v, ys, h⟩ := H
  have HL := hid (fun w' (hb : Below W.heap.size W w') => look_any (h.below hb) wk a)
  clear h
  generalize S.look wk a = r at HL ⊢
  obtain ⟨⟨kind', n', owner', need', came', turns', there'⟩, V, E⟩ := r
  obtain ⟨ak, ac, ao, an⟩ := a
  unfold CeTellL Ce.val Ac.val at HL
  unfold Ac.val
  dsimp only [List.cons_append, List.nil_append] at *
  have hb0 : Hid (Below W.heap.size W (W.alloc (.cells #[i64 ak, i64 ac, i64 ao, i64 an] 34))) := (Below.refl _ _).alloc (Nat.le_refl _) _
  go_enter Try.func44, Try.ntmps44
  go_wp2_with (go_at_call 52; (with_reducible refine (HL.out _ hb0.out).mono ?_); rintro e w3 ⟨p3, c3, rfl, hs3, hl3, hb3⟩; have HB3 := hid (below_more hb3 hb0.out (Nat.le_refl _)); clear hs3 hl3 hb3)
  go_ret
  exact ⟨rfl, HB3.out.alloc HB3.out.size _⟩
end Go.Proofs.Ythmockfeffikjaa
namespace Go.Proofs.Ythmockfeffikjaa
open Go.RowKit
variable {W : World} {base d : Nat} {v : Value} {ys : List CeR} {S : Mem} {fp : Nat → Prop}

/-- What an access does to a memory. -/
def DoTell (W : World) (base d : Nat) (hd : Value → Int → Obj) (S : Mem) (fp : Nat → Prop) (wk : Int) (a : Ac) (e : Ending) (w' : World) : Prop :=
  e = .returned (.tuple #[i64 (S.tell wk a).1, i64 (S.tell wk a).2]) ∧ ∃ fp', MMach w' base d hd (S.step wk a) fp' ∧ (∀ k, fp' k → fp k ∨ W.heap.size ≤ k) ∧ Turn fp W w' ∧ Below base W w'

set_option maxRecDepth 100000 in
set_option maxHeartbeats 2000000 in
theorem do_err (H : MMach W base d hdM S fp) (wk : Int) (a : Ac) (he : (S.look wk a).2.2 ≠ 0) :
    Calls Try.prog 43 #[.pointer (some ⟨d, 0, none⟩), i64 wk, a.val] W (DoTell W base d hdM S fp wk a) := by
  have e1 : S.step wk a = S := by unfold Mem.step; rw [if_neg he]
  have e2 : S.tell wk a = (0, (S.look wk a).2.2) := by unfold Mem.tell; rw [if_neg he]
  unfold DoTell
  rw [e1, e2]
  clear e1 e2
  have HM := hid H
  obtain ⟨v, ys, h⟩ := H
  have hbs : Hid (base ≤ W.heap.size) := Nat.le_trans h.bd (Nat.le_of_lt (h.lt _ h.fd))
  have HL := hid (fun w' (hb : Below W.heap.size W w') => look_any (h.below hb) wk a)
  clear h
  generalize S.look wk a = r at HL he ⊢
  obtain ⟨⟨kind', n', owner', need', came', turns', there'⟩, V, E⟩ := r
  obtain ⟨ak, ac, ao, an⟩ := a
  unfold CeTellL Ce.val Ac.val at HL
  unfold Ac.val
  dsimp only [List.cons_append, List.nil_append] at *
  have hne : (E != 0) = true := by simpa using he
  clear he
  have hb0 : Hid (Below W.heap.size W (W.alloc (.cells #[i64 ak, i64 ac, i64 ao, i64 an] 34))) := (Below.refl _ _).alloc (Nat.le_refl _) _
  go_enter Try.func43, Try.ntmps43
  go_wp2_with (go_at_call 52; (with_reducible refine (HL.out _ hb0.out).mono ?_); rintro e w3 ⟨p3, c3, rfl, hs3, hl3, hb3⟩; have HB3 := hid (below_more hb3 hb0.out (Nat.le_refl _)); clear hs3 hl3 hb3)
  have hb := HB3.out.alloc HB3.out.size (.cells #[i64 kind', i64 n', i64 owner', i64 need', .slice p3 came'.length c3, i64 turns', .bool there'] 30)
  exact bodyPost_ret (v := .tuple #[i64 0, i64 E]) (by simp [results, Try.results43, go_sem]) rfl ⟨rfl, fp, HM.out.below hb, fun _ h => .inl h, Turn.of_below hb, hb.mono hbs.out⟩
end Go.Proofs.Ythmockfeffikjaa
namespace Go.Proofs.Ythmockfeffikjaa
open Go.RowKit
variable {W : World} {base d : Nat} {v : Value} {ys : List CeR} {S : Mem} {fp : Nat → Prop}

/-- The world behind a store of a cell. -/
def put7 (w : World) (g o : Nat) (y : CeR) : World :=
  ((((((w.setCell ⟨g, o, none⟩ (i64 y.x.kind)).setCell ⟨g, o + 1, none⟩ (i64 y.x.n)).setCell ⟨g, o + 2, none⟩ (i64 y.x.owner)).setCell ⟨g, o + 3, none⟩ (i64 y.x.need)).setCell ⟨g, o + 4, none⟩ (.slice y.p y.x.came.length y.c)).setCell ⟨g, o + 5, none⟩ (i64 y.x.turns)).setCell ⟨g, o + 6, none⟩ (.bool y.x.there)
theorem own_put7 {w : World} {e : TypeId} {g n c : Nat} (h : w.ownsRow base e 7 (.slice (some ⟨g, 0, none⟩) n c) n (ceRow ys)) (k : Nat) (hk : k < ys.length) (y : CeR) : (put7 w g (k * 7) y).ownsRow base e 7 (.slice (some ⟨g, 0, none⟩) n c) n (ceRow (ys.set k y)) := by
  rw [← ceRow_set ys k hk y]
  exact own_set (own_set (own_set (own_set (own_set (own_set (own_set h _ _) _ _) _ _) _ _) _ _) _ _) _ _
theorem put7_other (w : World) (g o : Nat) (y : CeR) (k : Nat) (h : k ≠ g) : (put7 w g o y).heap[k]? = w.heap[k]? := by
  unfold put7
  iterate 7 rw [Below.heap_setCell _ _ _ _ h]
theorem put7_size (w : World) (g o : Nat) (y : CeR) : (put7 w g o y).heap.size = w.heap.size := by unfold put7; simp
/-- The memory behind a store of a cell, and of the number of steps. -/
theorem MemIs.put {hd : Value → Int → Obj} {g n c : Nat} (H : MemIs W base d hd (.slice (some ⟨g, 0, none⟩) n c) ys S fp) (k : Nat) (hk : k < ys.length) (y : CeR) (hok : okP y.x = true) (hs : SlAt W y.p y.c y.x.came) (hf : ∀ q, y.p = some q → q.block < W.heap.size ∧ q.block ≠ d ∧ q.block ≠ g)
    (m : Int) {w2 : World} (hd2 : w2.heap[d]? = some (hd (.slice (some ⟨g, 0, none⟩) n c) m)) (ho : ∀ j, j ≠ d → w2.heap[j]? = (put7 W g (k * 7) y).heap[j]?) (hz : w2.heap.size = W.heap.size) :
    MemIs w2 base d hd (.slice (some ⟨g, 0, none⟩) n c) (ys.set k y) ⟨S.cs.set k y.x, m⟩ (fun j => fp j ∨ ∃ q, y.p = some q ∧ j = q.block) := by
  have hgd : g ≠ d := fun e => H.nd (by rw [← e]; rfl)
  have mem : ∀ z ∈ ys.set k y, z ∈ ys ∨ z = y := fun z hz => List.mem_or_eq_of_mem_set hz
  have sl : ∀ z : CeR, SlAt W z.p z.c z.x.came → (∀ q, z.p = some q → q.block ≠ d ∧ q.block ≠ g) → SlAt w2 z.p z.c z.x.came := fun z hz hq => hz.blk (fun q e => (ho _ (hq q e).1).trans (put7_other _ _ _ _ _ (hq q e).2))
  have apg : ∀ z ∈ ys, ∀ q, z.p = some q → q.block ≠ d ∧ q.block ≠ g := fun z hz q e => ⟨(H.ap z hz q e).1, fun e2 => (H.ap z hz q e).2 (by rw [e2]; rfl)⟩
  refine ⟨?_, fun z hz => ?_, hd2, ?_, fun z hz => ?_, .inl H.fd, fun g' hg' => .inl (H.fv g' hg'), fun z hz q e => ?_, H.nd, fun z hz q e => ?_, fun j hj => ?_, H.bd⟩
  · show S.cs.set k y.x = _
    rw [H.cs, List.map_set]
  · rcases mem z hz with h | rfl
    · exact H.ok z h
    · exact hok
  · rw [List.length_set]
    have h0 := H.own
    have hn : n = ys.length := by
      obtain ⟨p, c', e, _⟩ := own_shape h0
      injection e
    subst hn
    exact own_blk (own_put7 h0 k hk y) (fun g' hg' => by
      have e : g' = g := by injection hg' with hg'; exact hg'.symm
      subst e; exact ho _ hgd)
  · rcases mem z hz with h | rfl
    · exact sl z (H.sl z h) (apg z h)
    · exact sl z hs (fun q e => (hf q e).2)
  · rcases mem z hz with h | rfl
    · exact .inl (H.fs z h q e)
    · exact .inr ⟨q, e, rfl⟩
  · rcases mem z hz with h | rfl
    · exact H.ap z h q e
    · refine ⟨(hf q e).2.1, fun e2 => (hf q e).2.2 ?_⟩
      injection e2 with e2; exact e2.symm
  · rcases hj with h | ⟨q, e, rfl⟩
    · rw [hz]; exact H.lt j h
    · rw [hz]; exact (hf q e).1
end Go.Proofs.Ythmockfeffikjaa
