/-
 A memory as the walks have it, and what is made of it, in plain words.
 look, Waits, Steps of the code's memory.
 Waits of the code's memory.
 Do of the code's memory.
 A memory behind a store into one of its cells, in plain words.
 Append as one step of a region that draws its order.
 New of the code's memory.
 Do of the code's memory, without an error.
 The walk of New of the code's memory.
 The walks of Make, the program's and the document's.
 The code's table as it lies.
 What reads the code's table: Workers, Done, ask, next, Get.
 What reads the code's table: ask, next, Get.
 What reads the code's table: lock, Waits.
-/
import Derived.Test.YtabkmdhkfbcldaaGreatJL3
import Derived.Test.YtabkmdhkfbcldaaGreatJL2
import Derived.Deep.RegionHeld3
import Derived.Deep.DeepCutAuto
import Derived.BigQuiet
import Derived.WalkMore
import Derived.Deep.RegionLaw
import Derived.Test.YtabkmdhkfbcldaaGreatJL0
import Derived.Laws.AppendOwnNone
import Derived.StillTailTactics
namespace Go.Proofs.YtabkmdhkfbcldaaGreat
open Go.RowKit
structure Mem where
 cs : List Ce
 steps : Int
variable {W W' : World} {base d : Nat} {hd : Value → Int → Obj} {v : Value} {ys : List CeR} {S : Mem} {fp fp' : Nat → Prop}
def Mem.look (S : Mem) (wk : Int) (a : Ac) : Ce × Int × Int :=
 if a.cell < 0 ∨ (S.cs.length : Int) ≤ a.cell then (ce0, 0, 230) else oneP (S.cs.getD a.cell.toNat ce0) wk a
def Mem.step (S : Mem) (wk : Int) (a : Ac) : Mem :=
 if (S.look wk a).2.2 = 0 then ⟨S.cs.set a.cell.toNat (S.look wk a).1, IntKind.i64.wrap (S.steps + 1)⟩ else S
def Mem.tell (S : Mem) (wk : Int) (a : Ac) : Int × Int :=
 if (S.look wk a).2.2 = 0 then ((S.look wk a).2.1, 0) else (0, (S.look wk a).2.2)
structure Turn (fp : Nat → Prop) (w w' : World) : Prop where
 os : w'.os = w.os
 tape : w'.tape = w.tape
 output : w'.output = w.output
 size : w.heap.size ≤ w'.heap.size
 block : ∀ k, k < w.heap.size → ¬ fp k → w'.heap[k]? = w.heap[k]?
theorem Turn.of_below (h : Below W.heap.size W W') : Turn fp W W' := ⟨h.os, h.tape, h.output, h.size, fun k hk _ => h.block k hk⟩
theorem own_blk {w w' : World} {e : TypeId} {size n : Nat} {v : Value} {xs : List Value} (h : w.ownsRow base e size v n xs) (hk : ∀ g, v.ownBlock = some g → w'.heap[g]? = w.heap[g]?) : w'.ownsRow base e size v n xs := by
 refine ⟨h.1, ?_⟩
 rcases h.2 with hn' | ⟨g, cap, cur, rfl, hge, hg, rest⟩
 ·exact .inl hn'
 ·exact .inr ⟨g, cap, cur, rfl, hge, (hk g rfl).trans hg, rest⟩
theorem SlAt.blk {p : Option Addr} {c : Nat} {l : List Int} (h : SlAt W p c l) (hk : ∀ q, p = some q → W'.heap[q.block]? = W.heap[q.block]?) : SlAt W' p c l := by
 refine ⟨h.1, h.2.1, h.2.2.1, fun hne => ?_⟩
 obtain ⟨b, o, rfl, hc⟩ := h.2.2.2 hne
 exact ⟨b, o, rfl, fun i hi => by rw [← hc i hi]; exact World.cell?_of_block (a := ⟨b, o + i, none⟩) (hk ⟨b, o, none⟩ rfl)⟩
structure MemIs (W : World) (base d : Nat) (hd : Value → Int → Obj) (v : Value) (ys : List CeR) (S : Mem) (fp : Nat → Prop) : Prop where
 cs : S.cs = ys.map CeR.x
 ok : ∀ y ∈ ys, okP y.x = true
 head : W.heap[d]? = some (hd v S.steps)
 own : W.ownsRow base 61 7 v ys.length (ceRow ys)
 sl : ∀ y ∈ ys, SlAt W y.p y.c y.x.came
 fd : fp d
 fv : ∀ g, v.ownBlock = some g → fp g
 fs : ∀ y ∈ ys, ∀ q, y.p = some q → fp q.block
 nd : v.ownBlock ≠ some d
 ap : ∀ y ∈ ys, ∀ q, y.p = some q → q.block ≠ d ∧ v.ownBlock ≠ some q.block
 lt : ∀ k, fp k → k < W.heap.size
 bd : base ≤ d
theorem MemIs.kept (H : MemIs W base d hd v ys S fp) (hk : ∀ k, fp k → W'.heap[k]? = W.heap[k]?) (hs : W.heap.size ≤ W'.heap.size) : MemIs W' base d hd v ys S fp :=
 ⟨H.cs, H.ok, (hk d H.fd).trans H.head, own_blk H.own (fun g hg => hk g (H.fv g hg)), fun y hy => (H.sl y hy).blk (fun q hq => hk _ (H.fs y hy q hq)), H.fd, H.fv, H.fs, H.nd, H.ap, fun k h => Nat.lt_of_lt_of_le (H.lt k h) hs, H.bd⟩
theorem MemIs.below (H : MemIs W base d hd v ys S fp) (hb : Below W.heap.size W W') : MemIs W' base d hd v ys S fp := H.kept (fun k hk => hb.block k (H.lt k hk)) hb.size
def MMach (W : World) (base d : Nat) (hd : Value → Int → Obj) (S : Mem) (fp : Nat → Prop) : Prop := ∃ v ys, MemIs W base d hd v ys S fp
theorem MMach.kept (H : MMach W base d hd S fp) (hk : ∀ k, fp k → W'.heap[k]? = W.heap[k]?) (hs : W.heap.size ≤ W'.heap.size) : MMach W' base d hd S fp := by
 obtain ⟨v, ys, h⟩ := H; exact ⟨v, ys, h.kept hk hs⟩
theorem MMach.below (H : MMach W base d hd S fp) (hb : Below W.heap.size W W') : MMach W' base d hd S fp := by
 obtain ⟨v, ys, h⟩ := H; exact ⟨v, ys, h.below hb⟩
theorem MemIs.len (H : MemIs W base d hd v ys S fp) : S.cs.length = ys.length := by rw [H.cs, List.length_map]
theorem MemIs.look (H : MemIs W base d hd v ys S fp) {wk : Int} {a : Ac} {k : Nat} (hk : k < ys.length) (e : a.cell = k) : S.look wk a = oneP ys[k].x wk a := by
 unfold Mem.look
 rw [if_neg (by rw [H.len]; omega), e, Int.toNat_natCast]
 congr 1
 rw [H.cs, List.getD_eq_getElem?_getD, List.getElem?_map, List.getElem?_eq_getElem hk]; rfl
theorem MemIs.look_no (H : MemIs W base d hd v ys S fp) {wk : Int} {a : Ac} (e : a.cell < 0 ∨ (ys.length : Int) ≤ a.cell) : S.look wk a = (ce0, 0, 230) := by
 unfold Mem.look
 rw [if_pos (by rw [H.len]; exact e)]
theorem ceRow_set (ys : List CeR) (k : Nat) (hk : k < ys.length) (y : CeR) :
  (((((((ceRow ys).set (k * 7) (i64 y.x.kind)).set (k * 7 + 1) (i64 y.x.n)).set (k * 7 + 2) (i64 y.x.owner)).set (k * 7 + 3) (i64 y.x.need)).set (k * 7 + 4) (.slice y.p y.x.came.length y.c)).set (k * 7 + 5) (i64 y.x.turns)).set (k * 7 + 6) (.bool y.x.there) = ceRow (ys.set k y) := by
 induction ys generalizing k with
 | nil => cases hk
 | cons a l ih =>
  cases k with
  | zero => simp [ceRow, CeR.cells]
  | succ k =>
   have := ih k (by simpa using hk)
   simp only [ceRow, List.flatMap_cons, List.set_cons_succ] at this ⊢
   rw [← this]
   have e : ∀ j, (k + 1) * 7 + j = (CeR.cells a).length + (k * 7 + j) := fun j => by show _ = 7 + _; omega
   have e0 : (k + 1) * 7 = (CeR.cells a).length + k * 7 := e 0
   rw [e0, show (CeR.cells a).length + k * 7 + 1 = (CeR.cells a).length + (k * 7 + 1) from by omega, show (CeR.cells a).length + k * 7 + 2 = (CeR.cells a).length + (k * 7 + 2) from by omega, show (CeR.cells a).length + k * 7 + 3 = (CeR.cells a).length + (k * 7 + 3) from by omega, show (CeR.cells a).length + k * 7 + 4 = (CeR.cells a).length + (k * 7 + 4) from by omega, show (CeR.cells a).length + k * 7 + 5 = (CeR.cells a).length + (k * 7 + 5) from by omega, show (CeR.cells a).length + k * 7 + 6 = (CeR.cells a).length + (k * 7 + 6) from by omega]
   simp only [List.set_append_right _ _ (Nat.le_add_right _ _), Nat.add_sub_cancel_left]
end Go.Proofs.YtabkmdhkfbcldaaGreat
namespace Go.Proofs.YtabkmdhkfbcldaaGreat
open Go.RowKit
theorem below_more {B : Nat} {W w1 w2 : World} (h2 : Below w1.heap.size w1 w2) (h1 : Below B W w1) (hB : B ≤ W.heap.size) : Below B W w2 := h1.trans (h2.mono (Nat.le_trans hB h1.size))
variable {W : World} {base d : Nat} {v : Value} {ys : List CeR} {S : Mem} {fp : Nat → Prop}
structure LS (W : World) (a : Ac) (w' : World) : Prop where
 b : Below W.heap.size W w'
 a : AcBlk w' W.heap.size a
 z : W.heap.size + 2 ≤ w'.heap.size
theorem LS.drew {a : Ac} {w' : World} (h : LS W a w') : LS W a w'.drew := ⟨h.b.drew, h.a, h.z⟩
theorem LS.below {a : Ac} {w' w2 : World} (h : LS W a w') (hb : Below w'.heap.size w' w2) : LS W a w2 := ⟨h.b.trans (hb.mono (by have := h.z; omega)), h.a.below hb, Nat.le_trans h.z hb.size⟩
theorem LS.set {a : Ac} {w' : World} (h : LS W a w') (o : Nat) (u : Value) : LS W a (w'.setCell ⟨W.heap.size + 1, o, none⟩ u) := by
 refine ⟨h.b.setCell (by simp) _, ?_, by simpa using h.z⟩
 have : (w'.setCell ⟨W.heap.size + 1, o, none⟩ u).heap[W.heap.size]? = w'.heap[W.heap.size]? := Below.heap_setCell _ _ _ _ (by show W.heap.size ≠ W.heap.size + 1; omega)
 exact this.trans h.a
def hdM (v : Value) (n : Int) : Obj := .cells #[.bool true, v, i64 n] 90 (0, 0)
theorem hdM_cells {n : Int} (h : W.heap[d]? = some (hdM v n)) : W.cell? ⟨d, 0, none⟩ = some (.bool true) ∧ W.cell? ⟨d, 1, none⟩ = some v ∧ W.cell? ⟨d, 2, none⟩ = some (i64 n) := ⟨cell_of_row W d 0 _ _ _ h, cell_of_row W d 1 _ _ _ h, cell_of_row W d 2 _ _ _ h⟩
set_option maxRecDepth 100000 in
set_option maxHeartbeats 2000000 in
theorem look_no (H : MemIs W base d hdM v ys S fp) (wk : Int) (a : Ac) (hno : a.cell < 0 ∨ (ys.length : Int) ≤ a.cell) :
  Calls Tryz.prog 42 #[.pointer (some ⟨d, 0, none⟩), i64 wk, a.val] W (CeTellL (S.look wk a).1 [i64 (S.look wk a).2.1, i64 (S.look wk a).2.2] W) := by
 rw [H.look_no hno]
 obtain ⟨c0, c1, _⟩ := hdM_cells H.head
 have hld := (Array.getElem?_eq_some_iff.1 H.head).1
 obtain ⟨p, c, rfl, hr⟩ := own_shape H.own
 obtain ⟨ak, ac, ao, an⟩ := a
 dsimp only at hno
 unfold Ac.val
 dsimp only
 have hld1 : d < W.heap.size + 1 := by omega
 have hlen : ys.length ≤ maxLen := by
  rcases H.own.2 with ⟨_, h⟩ | ⟨_, cap, _, _, _, _, h1, h2, _⟩ <;> omega
 unfold maxLen at hlen
 clear hr H
 by_cases h0 : ac < 0
 ·have e1 : decide (ac < 0) = true := by simpa using h0
  clear hno
  go_enter Tryz.func42, Tryz.ntmps42
  go_upto_region 3 with (fail)
  go_quiet (fail)
  go_wp2_with fail
  exact bodyPost_ret (v := .tuple #[ce0.val none 0, i64 0, i64 230]) (by simp [results, Tryz.results42, go_sem, ce0, Ce.val]) rfl (by
   refine ⟨none, 0, rfl, slat_nil _, fun q hq => (by cases hq), ?_⟩
   repeat (refine Below.setCell ?_ (by simp) _)
   exact below_drewN (((Below.refl _ _).alloc (Nat.le_refl _) _).alloc (by simp) _) _)
 ·have e1 : decide (ac < 0) = false := by simpa using h0
  have e2 : decide ((ys.length : Int) ≤ ac) = true := by simp; omega
  go_enter Tryz.func42, Tryz.ntmps42
  go_upto_region 3 with (fail)
  go_quiet (fail)
  go_wp2_with fail
  exact bodyPost_ret (v := .tuple #[ce0.val none 0, i64 0, i64 230]) (by simp [results, Tryz.results42, go_sem, ce0, Ce.val]) rfl (by
   refine ⟨none, 0, rfl, slat_nil _, fun q hq => (by cases hq), ?_⟩
   repeat (refine Below.setCell ?_ (by simp) _)
   exact below_drewN (((Below.refl _ _).alloc (Nat.le_refl _) _).alloc (by simp) _) _)
set_option maxRecDepth 100000 in
set_option maxHeartbeats 4000000 in
theorem look_yes (H : MemIs W base d hdM v ys S fp) (wk : Int) (a : Ac) (k : Nat) (hk : k < ys.length) (he : a.cell = k) :
  Calls Tryz.prog 42 #[.pointer (some ⟨d, 0, none⟩), i64 wk, a.val] W (CeTellL (S.look wk a).1 [i64 (S.look wk a).2.1, i64 (S.look wk a).2.2] W) := by
 rw [H.look hk he]
 obtain ⟨c0, c1, _⟩ := hdM_cells H.head
 have hld := (Array.getElem?_eq_some_iff.1 H.head).1
 have hy := List.getElem_mem hk
 have hsl := H.sl _ hy
 have hcm := ok_came (H.ok _ hy)
 obtain ⟨g, c, rfl, hlg⟩ := own_block H.own (by omega)
 have hr : Row W (some ⟨g, 0, none⟩) (ceRow ys) := by
  obtain ⟨p, c', e, hr⟩ := own_shape H.own
  injection e with e1; rw [e1]; exact hr
 obtain ⟨r0, r1, r2, r3, r4, r5, r6⟩ := ce_cells hr k hk
 simp only [Nat.zero_add] at r0 r1 r2 r3 r4 r5 r6
 have HONE := hid (fun w1 (hb : Below W.heap.size W w1) => one_any ys[k].x ys[k].p ys[k].c wk a w1 (hsl.below hb) (by omega))
 obtain ⟨ak, ac, ao, an⟩ := a
 dsimp only at he
 subst he
 have hlen : ys.length ≤ maxLen := by
  rcases H.own.2 with ⟨_, h⟩ | ⟨_, cap, _, _, _, _, h1, h2, _⟩ <;> omega
 unfold maxLen at hlen
 generalize ys[k] = y at *
 obtain ⟨⟨kind, n, owner, need, came, turns, there⟩, p, c2⟩ := y
 dsimp only at *
 generalize oneP ⟨kind, n, owner, need, came, turns, there⟩ wk ⟨ak, k, ao, an⟩ = r at HONE ⊢
 obtain ⟨⟨kind', n', owner', need', came', turns', there'⟩, V, E⟩ := r
 unfold CeTellL Ce.val Ac.val at HONE
 unfold Ac.val
 dsimp only [List.cons_append, List.nil_append] at *
 have hkI : (k : Int) < ys.length := by omega
 have e1 : decide ((k : Int) < 0) = false := by simp
 have e2 : decide ((ys.length : Int) ≤ k) = false := by simp; omega
 clear hr H hsl hcm hy
 have hld1 : d < W.heap.size + 1 := by omega
 go_enter Tryz.func42, Tryz.ntmps42
 go_upto_region 3 with (fail)
 go_quiet (fail)
 go_upto_region 5 with (fail)
 obtain ⟨W1, hW1⟩ : ∃ W1, W1 = (W.alloc (.cells #[i64 ak, i64 k, i64 ao, i64 an] 75)).alloc (.cells #[.int .i64 0, .int .i64 0, .int .i64 0, .int .i64 0, .slice none 0 0, .int .i64 0, .bool false] 61) := ⟨_, rfl⟩
 have hb1 : Below W.heap.size W W1 := by rw [hW1]; exact ((Below.refl _ _).alloc (Nat.le_refl _) _).alloc (by simp) _
 have hz1 : W1.heap.size = W.heap.size + 2 := by rw [hW1]; simp
 have hA : AcBlk W1 W.heap.size ⟨ak, k, ao, an⟩ := by rw [hW1]; exact (acblk_new W ⟨ak, k, ao, an⟩).alloc _
 have hC : CeBlk W1 (W.heap.size + 1) ce0 none 0 := by
  rw [hW1]
  have := ceblk_new (W.alloc (.cells #[i64 ak, i64 k, i64 ao, i64 an] 75)) ce0 none 0
  rwa [World.size_alloc] at this
 rw [← hW1]
 generalize hW2 : W1.drewN nq = W2
 have hB2 : Below W.heap.size W W2 := by rw [← hW2]; exact below_drewN hb1 _
 have hA2 : AcBlk W2 W.heap.size ⟨ak, k, ao, an⟩ := by rw [← hW2]; exact hA
 have hC2 : CeBlk W2 (W.heap.size + 1) ce0 none 0 := by rw [← hW2]; exact hC
 have hz2 : W2.heap.size = W.heap.size + 2 := by rw [← hW2]; exact hz1
 clear hW2 hW1 hA hC hb1 hz1
 have HB2 := hid hB2
 have HA2 := hid hA2
 have HC2 := hid hC2
 have HZ2 := hid hz2
 have hzz : W.heap.size + 1 < W2.heap.size := by omega
 clear hA2 hC2 hz2
 have HLS : Hid (LS W ⟨ak, k, ao, an⟩ W2) := ⟨HB2.out, HA2.out, by rw [HZ2.out]; exact Nat.le_refl _⟩
 have q0 : ∀ w', LS W ⟨ak, k, ao, an⟩ w' → w'.cell? ⟨d, 1, none⟩ = some (.slice (some ⟨g, 0, none⟩) ys.length c) := fun w' hb => (hb.b.cell (p := ⟨d, 1, none⟩) hld).trans c1
 have a0 : ∀ w', LS W ⟨ak, k, ao, an⟩ w' → w'.cell? ⟨W.heap.size, 0, none⟩ = some (i64 ak) := fun w' hb => hb.a.facts.1.1
 have a1 : ∀ w', LS W ⟨ak, k, ao, an⟩ w' → w'.cell? ⟨W.heap.size, 1, none⟩ = some (i64 k) := fun w' hb => hb.a.facts.1.2.1
 have a2 : ∀ w', LS W ⟨ak, k, ao, an⟩ w' → w'.cell? ⟨W.heap.size, 2, none⟩ = some (i64 ao) := fun w' hb => hb.a.facts.1.2.2.1
 have a3 : ∀ w', LS W ⟨ak, k, ao, an⟩ w' → w'.cell? ⟨W.heap.size, 3, none⟩ = some (i64 an) := fun w' hb => hb.a.facts.1.2.2.2
 have hglt : g < W.heap.size := hlg.2.1
 have up : ∀ w' (j : Nat) (u : Value), LS W ⟨ak, k, ao, an⟩ w' → W.cell? ⟨g, j, none⟩ = some u → w'.cell? ⟨g, j, none⟩ = some u := fun w' j u hb h => (hb.b.cell (p := ⟨g, j, none⟩) hglt).trans h
 have b0 := fun w' (hb : LS W ⟨ak, k, ao, an⟩ w') => up w' _ _ hb r0
 have b1 := fun w' (hb : LS W ⟨ak, k, ao, an⟩ w') => up w' _ _ hb r1
 have b2 := fun w' (hb : LS W ⟨ak, k, ao, an⟩ w') => up w' _ _ hb r2
 have b3 := fun w' (hb : LS W ⟨ak, k, ao, an⟩ w') => up w' _ _ hb r3
 have b4 := fun w' (hb : LS W ⟨ak, k, ao, an⟩ w') => up w' _ _ hb r4
 have b5 := fun w' (hb : LS W ⟨ak, k, ao, an⟩ w') => up w' _ _ hb r5
 have b6 := fun w' (hb : LS W ⟨ak, k, ao, an⟩ w') => up w' _ _ hb r6
 clear up c0 c1 r0 r1 r2 r3 r4 r5 r6
 go_region_held3 (fun w' => LS W ⟨ak, k, ao, an⟩ w') (first | (with_reducible assumption) | (with_reducible exact HLS.out) | (with_reducible exact HLS.out.drew) | (with_reducible ((repeat (refine LS.set ?_ _ _)); assumption)))
  (first
   | (go_at_call 65; (with_reducible refine (HONE.out _ (by first | exact HB2.out.drew | exact HB2.out)).mono ?_); rintro e w3 ⟨p3, c3, rfl, hs3, hl3, hb3⟩; have HS3 := hid hs3; have HL3 := hid hl3; have hq3 : LS W ⟨ak, k, ao, an⟩ w3 := LS.below (by first | exact HLS.out.drew | exact HLS.out) hb3; have hC3 : CeBlk w3 (W.heap.size + 1) ce0 none 0 := CeBlk.belowB HC2.out (show Below W2.heap.size W2 w3 from ⟨hb3.os, hb3.tape, hb3.output, hb3.size, hb3.block⟩) hzz; clear hs3 hl3 hb3; obtain ⟨⟨y0, y1, y2, y3, y4, y5, y6⟩, yf, yl⟩ := hC3.facts; clear hC3; dsimp only [ce0, List.length_nil] at y0 y1 y2 y3 y4 y5 y6))
 go_wp2_with fail
 have hz2 : W2.heap.size = W.heap.size + 2 := HZ2.out
 have hl3 : ∀ q, p3 = some q → W.heap.size + 2 ≤ q.block ∧ q.block < w3.heap.size := fun q hq => by
  have := HL3.out q hq
  have e : W2.drew.heap.size = W2.heap.size := rfl
  first | (rw [e] at this; omega) | omega
 exact bodyPost_ret (v := .tuple #[(Ce.mk kind' n' owner' need' came' turns' there').val p3 c3, i64 V, i64 E]) (by simp [results, Tryz.results42, go_sem, Ce.val, y0, y1, y2, y3, y4, y5, y6]) rfl (by
  refine ⟨p3, c3, rfl, ?_, fun q hq => ⟨by have := hl3 q hq; omega, by have := hl3 q hq; simp; omega⟩, ?_⟩
  ·repeat (refine SlAt.set ?_ _ _ _ (fun q hq e => by have := hl3 q hq; omega))
   exact HS3.out
  ·repeat (refine Below.setCell ?_ (by simp) _)
   exact hq3.b)
theorem look_any (H : MemIs W base d hdM v ys S fp) (wk : Int) (a : Ac) :
  Calls Tryz.prog 42 #[.pointer (some ⟨d, 0, none⟩), i64 wk, a.val] W (CeTellL (S.look wk a).1 [i64 (S.look wk a).2.1, i64 (S.look wk a).2.2] W) := by
 by_cases h : a.cell < 0 ∨ (ys.length : Int) ≤ a.cell
 ·exact look_no H wk a h
 ·exact look_yes H wk a a.cell.toNat (by omega) (by omega)
end Go.Proofs.YtabkmdhkfbcldaaGreat
namespace Go.Proofs.YtabkmdhkfbcldaaGreat
open Go.RowKit
variable {W : World} {base d : Nat} {v : Value} {ys : List CeR} {S : Mem} {fp : Nat → Prop}
set_option maxRecDepth 100000 in
set_option maxHeartbeats 2000000 in
theorem mwaits_any (H : MMach W base d hdM S fp) (wk : Int) (a : Ac) :
  Calls Tryz.prog 41 #[.pointer (some ⟨d, 0, none⟩), i64 wk, a.val] W fun e w' => e = .returned (.bool ((S.look wk a).2.2 == 231)) ∧ Below W.heap.size W w' := by
 obtain ⟨v, ys, h⟩ := H
 have HL := hid (fun w' (hb : Below W.heap.size W w') => look_any (h.below hb) wk a)
 clear h
 generalize S.look wk a = r at HL ⊢
 obtain ⟨⟨kind', n', owner', need', came', turns', there'⟩, V, E⟩ := r
 obtain ⟨ak, ac, ao, an⟩ := a
 unfold CeTellL Ce.val Ac.val at HL
 unfold Ac.val
 dsimp only [List.cons_append, List.nil_append] at *
 have hb0 : Hid (Below W.heap.size W (W.alloc (.cells #[i64 ak, i64 ac, i64 ao, i64 an] 75))) := (Below.refl _ _).alloc (Nat.le_refl _) _
 go_enter Tryz.func41, Tryz.ntmps41
 go_wp2_with (go_at_call 42; (with_reducible refine (HL.out _ hb0.out).mono ?_); rintro e w3 ⟨p3, c3, rfl, hs3, hl3, hb3⟩; have HB3 := hid (below_more hb3 hb0.out (Nat.le_refl _)); clear hs3 hl3 hb3)
 go_ret
 exact ⟨rfl, HB3.out.alloc HB3.out.size _⟩
end Go.Proofs.YtabkmdhkfbcldaaGreat
namespace Go.Proofs.YtabkmdhkfbcldaaGreat
open Go.RowKit
variable {W : World} {base d : Nat} {v : Value} {ys : List CeR} {S : Mem} {fp : Nat → Prop}
def DoTell (W : World) (base d : Nat) (hd : Value → Int → Obj) (S : Mem) (fp : Nat → Prop) (wk : Int) (a : Ac) (e : Ending) (w' : World) : Prop :=
 e = .returned (.tuple #[i64 (S.tell wk a).1, i64 (S.tell wk a).2]) ∧ ∃ fp', MMach w' base d hd (S.step wk a) fp' ∧ (∀ k, fp' k → fp k ∨ W.heap.size ≤ k) ∧ Turn fp W w' ∧ Below base W w'
set_option maxRecDepth 100000 in
set_option maxHeartbeats 2000000 in
theorem do_err (H : MMach W base d hdM S fp) (wk : Int) (a : Ac) (he : (S.look wk a).2.2 ≠ 0) :
  Calls Tryz.prog 26 #[.pointer (some ⟨d, 0, none⟩), i64 wk, a.val] W (DoTell W base d hdM S fp wk a) := by
 have e1 : S.step wk a = S := by unfold Mem.step; rw [if_neg he]
 have e2 : S.tell wk a = (0, (S.look wk a).2.2) := by unfold Mem.tell; rw [if_neg he]
 unfold DoTell
 rw [e1, e2]
 clear e1 e2
 have HM := hid H
 obtain ⟨v, ys, h⟩ := H
 have hbs : Hid (base ≤ W.heap.size) := Nat.le_trans h.bd (Nat.le_of_lt (h.lt _ h.fd))
 have HL := hid (fun w' (hb : Below W.heap.size W w') => look_any (h.below hb) wk a)
 clear h
 generalize S.look wk a = r at HL he ⊢
 obtain ⟨⟨kind', n', owner', need', came', turns', there'⟩, V, E⟩ := r
 obtain ⟨ak, ac, ao, an⟩ := a
 unfold CeTellL Ce.val Ac.val at HL
 unfold Ac.val
 dsimp only [List.cons_append, List.nil_append] at *
 have hne : (E != 0) = true := by simpa using he
 clear he
 have hb0 : Hid (Below W.heap.size W (W.alloc (.cells #[i64 ak, i64 ac, i64 ao, i64 an] 75))) := (Below.refl _ _).alloc (Nat.le_refl _) _
 go_enter Tryz.func26, Tryz.ntmps26
 go_wp2_with (go_at_call 42; (with_reducible refine (HL.out _ hb0.out).mono ?_); rintro e w3 ⟨p3, c3, rfl, hs3, hl3, hb3⟩; have HB3 := hid (below_more hb3 hb0.out (Nat.le_refl _)); clear hs3 hl3 hb3)
 have hb := HB3.out.alloc HB3.out.size (.cells #[i64 kind', i64 n', i64 owner', i64 need', .slice p3 came'.length c3, i64 turns', .bool there'] 61)
 exact bodyPost_ret (v := .tuple #[i64 0, i64 E]) (by simp [results, Tryz.results26, go_sem]) rfl ⟨rfl, fp, HM.out.below hb, fun _ h => .inl h, Turn.of_below hb, hb.mono hbs.out⟩
end Go.Proofs.YtabkmdhkfbcldaaGreat
namespace Go.Proofs.YtabkmdhkfbcldaaGreat
open Go.RowKit
variable {W : World} {base d : Nat} {v : Value} {ys : List CeR} {S : Mem} {fp : Nat → Prop}
def put7 (w : World) (g o : Nat) (y : CeR) : World :=
 ((((((w.setCell ⟨g, o, none⟩ (i64 y.x.kind)).setCell ⟨g, o + 1, none⟩ (i64 y.x.n)).setCell ⟨g, o + 2, none⟩ (i64 y.x.owner)).setCell ⟨g, o + 3, none⟩ (i64 y.x.need)).setCell ⟨g, o + 4, none⟩ (.slice y.p y.x.came.length y.c)).setCell ⟨g, o + 5, none⟩ (i64 y.x.turns)).setCell ⟨g, o + 6, none⟩ (.bool y.x.there)
theorem own_put7 {w : World} {e : TypeId} {g n c : Nat} (h : w.ownsRow base e 7 (.slice (some ⟨g, 0, none⟩) n c) n (ceRow ys)) (k : Nat) (hk : k < ys.length) (y : CeR) : (put7 w g (k * 7) y).ownsRow base e 7 (.slice (some ⟨g, 0, none⟩) n c) n (ceRow (ys.set k y)) := by
 rw [← ceRow_set ys k hk y]
 exact own_set (own_set (own_set (own_set (own_set (own_set (own_set h _ _) _ _) _ _) _ _) _ _) _ _) _ _
theorem put7_other (w : World) (g o : Nat) (y : CeR) (k : Nat) (h : k ≠ g) : (put7 w g o y).heap[k]? = w.heap[k]? := by
 unfold put7
 iterate 7 rw [Below.heap_setCell _ _ _ _ h]
theorem put7_size (w : World) (g o : Nat) (y : CeR) : (put7 w g o y).heap.size = w.heap.size := by unfold put7; simp
theorem MemIs.put {hd : Value → Int → Obj} {g n c : Nat} (H : MemIs W base d hd (.slice (some ⟨g, 0, none⟩) n c) ys S fp) (k : Nat) (hk : k < ys.length) (y : CeR) (hok : okP y.x = true) (hs : SlAt W y.p y.c y.x.came) (hf : ∀ q, y.p = some q → q.block < W.heap.size ∧ q.block ≠ d ∧ q.block ≠ g)
  (m : Int) {w2 : World} (hd2 : w2.heap[d]? = some (hd (.slice (some ⟨g, 0, none⟩) n c) m)) (ho : ∀ j, j ≠ d → w2.heap[j]? = (put7 W g (k * 7) y).heap[j]?) (hz : w2.heap.size = W.heap.size) :
  MemIs w2 base d hd (.slice (some ⟨g, 0, none⟩) n c) (ys.set k y) ⟨S.cs.set k y.x, m⟩ (fun j => fp j ∨ ∃ q, y.p = some q ∧ j = q.block) := by
 have hgd : g ≠ d := fun e => H.nd (by rw [← e]; rfl)
 have mem : ∀ z ∈ ys.set k y, z ∈ ys ∨ z = y := fun z hz => List.mem_or_eq_of_mem_set hz
 have sl : ∀ z : CeR, SlAt W z.p z.c z.x.came → (∀ q, z.p = some q → q.block ≠ d ∧ q.block ≠ g) → SlAt w2 z.p z.c z.x.came := fun z hz hq => hz.blk (fun q e => (ho _ (hq q e).1).trans (put7_other _ _ _ _ _ (hq q e).2))
 have apg : ∀ z ∈ ys, ∀ q, z.p = some q → q.block ≠ d ∧ q.block ≠ g := fun z hz q e => ⟨(H.ap z hz q e).1, fun e2 => (H.ap z hz q e).2 (by rw [e2]; rfl)⟩
 refine ⟨?_, fun z hz => ?_, hd2, ?_, fun z hz => ?_, .inl H.fd, fun g' hg' => .inl (H.fv g' hg'), fun z hz q e => ?_, H.nd, fun z hz q e => ?_, fun j hj => ?_, H.bd⟩
 ·show S.cs.set k y.x = _
  rw [H.cs, List.map_set]
 ·rcases mem z hz with h | rfl
  ·exact H.ok z h
  ·exact hok
 ·rw [List.length_set]
  have h0 := H.own
  have hn : n = ys.length := by
   obtain ⟨p, c', e, _⟩ := own_shape h0
   injection e
  subst hn
  exact own_blk (own_put7 h0 k hk y) (fun g' hg' => by
   have e : g' = g := by injection hg' with hg'; exact hg'.symm
   subst e; exact ho _ hgd)
 ·rcases mem z hz with h | rfl
  ·exact sl z (H.sl z h) (apg z h)
  ·exact sl z hs (fun q e => (hf q e).2)
 ·rcases mem z hz with h | rfl
  ·exact .inl (H.fs z h q e)
  ·exact .inr ⟨q, e, rfl⟩
 ·rcases mem z hz with h | rfl
  ·exact H.ap z h q e
  ·refine ⟨(hf q e).2.1, fun e2 => (hf q e).2.2 ?_⟩
   injection e2 with e2; exact e2.symm
 ·rcases hj with h | ⟨q, e, rfl⟩
  ·rw [hz]; exact H.lt j h
  ·rw [hz]; exact (hf q e).1
end Go.Proofs.YtabkmdhkfbcldaaGreat
namespace Go.Proofs.YtabkmdhkfbcldaaGreat
open Go.RowKit
variable {P : Program} {w : World} {t e : TypeId} {size bytes : Nat} {z : Value} {ops : Array Oper} {o : Oper} {a : Act} {K : Act → World → Prop} {Q : Exit → Act → World → Prop} {C : Prop}
theorem step_app (E : Elem P t e size bytes z) (hgd : o.guard = none) (s x : Operand)
  (ho : o.op = .call { callee := .builtin .append, args := #[s, x], argTypes := #[t, t] })
  (base : Nat) (v : Value) (n : Nat) (xs : List Value) (hs : a.eval s = v) (hown : w.ownsRow base e size v n xs)
  (ad : Addr) (m c : Nat) (news : List Value) (hx : a.eval x = .slice (some ad) m c) (hl : news.length = m * size) (hrow : Row w (some ad) news) (h1 : ∀ u ∈ news, u.oneCell' = true)
  (h63 : n + m ≤ maxLen) (hbytes : (n + m) * bytes ≤ 140737488355328) (hbase : base ≤ w.heap.size)
  (h : ∀ v' w', w'.ownsRow base e size v' (n + m) (xs ++ news) → w.grownBy w' v.ownBlock → Stayed w v v' → K (a.put o.dst v') w') :
  if Region.wanted o (yielded ops a.tmps) = true then Oper.wp P o a w K Q else C := by
 have hw : Region.wanted o (yielded ops a.tmps) = true := by simp [Region.wanted, hgd]
 rw [if_pos hw]
 obtain ⟨i, hi, hz, hsz, hby⟩ := E.info
 have hnews : ∀ j u, news[j]? = some u → w.cell? (ad.add j) = some u := by
  intro j u hj
  have hjl : j < news.length := (List.getElem?_eq_some_iff.1 hj).1
  obtain ⟨b, o, e1, hc⟩ := hrow (by intro e1; rw [e1] at hjl; simp at hjl)
  cases e1
  rw [addr_add, hc j hjl]
  rw [List.getElem?_eq_getElem hjl] at hj
  exact hj
 obtain ⟨v', w', hr, h2, h3, _⟩ := run_append_own (P := P) w base t o.type e i z size bytes E.desc hi hz hsz hby E.cells E.pos v n xs hown ad m c news hl hnews h1 h63 hbytes hbase
 have h4 := app_stayed E o.type base v n xs hown ad m c news hl hnews h1 h63 hbytes hr
 unfold Oper.wp execOp
 simp only [ho, resolve, invoke, builtin, Sem.run_bind, Sem.run_pure, Result.andThen_ok, List.map_toArray, List.map_cons, List.map_nil, hs, hx, hr]
 exact h v' w' h2 h3 h4
theorem step_appO (E : Elem P t e size bytes z) (hgd : o.guard = none) (s x : Operand)
  (ho : o.op = .call { callee := .builtin .append, args := #[s, x], argTypes := #[t, t] })
  (base : Nat) (v : Value) (n : Nat) (xs : List Value) (hs : a.eval s = v) (hown : w.ownsRow base e size v n xs)
  (p : Option Addr) (m c : Nat) (news : List Value) (hx : a.eval x = .slice p m c) (hl : news.length = m * size) (hnil : p = none → c = 0) (hrow : Row w p news) (h1 : ∀ u ∈ news, u.oneCell' = true)
  (h63 : n + m ≤ maxLen) (hbytes : (n + m) * bytes ≤ 140737488355328) (hbase : base ≤ w.heap.size)
  (h : ∀ v' w', w'.ownsRow base e size v' (n + m) (xs ++ news) → w.grownBy w' v.ownBlock → Stayed w v v' → K (a.put o.dst v') w') :
  if Region.wanted o (yielded ops a.tmps) = true then Oper.wp P o a w K Q else C := by
 cases p with
 | some ad => exact step_app E hgd s x ho base v n xs hs hown ad m c news hx hl hrow h1 h63 hbytes hbase h
 | none =>
  have hw : Region.wanted o (yielded ops a.tmps) = true := by simp [Region.wanted, hgd]
  rw [if_pos hw]
  obtain ⟨i, hi, hz, hsz, hby⟩ := E.info
  have hc : c = 0 := hnil rfl
  subst hc
  have hn : news = [] := by
   apply Classical.byContradiction
   intro hne
   obtain ⟨b, o, e1, _⟩ := hrow hne
   cases e1
  subst hn
  have hm : m = 0 := by
   have := E.pos
   have hl' : 0 = m * size := hl
   rcases Nat.mul_eq_zero.1 hl'.symm with h0 | h0
   ·exact h0
   ·omega
  subst hm
  have hr := run_append_owned_none (P := P) (w := w) base t o.type e i size E.desc hi v n xs hown
  unfold Oper.wp execOp
  simp only [ho, resolve, invoke, builtin, Sem.run_bind, Sem.run_pure, Result.andThen_ok, List.map_toArray, List.map_cons, List.map_nil, hs, hx, hr]
  exact h v w (by simpa using hown) (World.grownBy.refl _ _) (fun g hg => .inl hg)
end Go.Proofs.YtabkmdhkfbcldaaGreat
namespace Go.Proofs.YtabkmdhkfbcldaaGreat
open Go.RowKit
variable {W w w1 w2 w3 w4 : World} {base d : Nat} {hd : Value → Int → Obj} {v v' : Value} {ys : List CeR} {S : Mem} {fp : Nat → Prop}
theorem ECell : Elem Tryz.prog 66 61 7 72 (.agg #[i64 0, i64 0, i64 0, i64 0, .slice none 0 0, i64 0, .bool false]) := Elem.mk' Tryz.underlying66 (by kernel_rfl) rfl (by decide)
theorem ceCells_one (y : CeR) : ∀ u ∈ CeR.cells y, u.oneCell' = true := by
 intro u hu
 simp [CeR.cells] at hu
 rcases hu with rfl | rfl | rfl | rfl | rfl | rfl | rfl <;> rfl
theorem ceRow_snoc (ys : List CeR) (y : CeR) : ceRow (ys ++ [y]) = ceRow ys ++ CeR.cells y := by simp [ceRow]
theorem MemIs.wider {fp' : Nat → Prop} (H : MemIs W base d hd v ys S fp) (h : ∀ k, fp k → fp' k) (hl : ∀ k, fp' k → k < W.heap.size) : MemIs W base d hd v ys S fp' :=
 ⟨H.cs, H.ok, H.head, H.own, H.sl, h _ H.fd, fun g hg => h g (H.fv g hg), fun y hy q e => h _ (H.fs y hy q e), H.nd, H.ap, hl, H.bd⟩
theorem MemIs.push (H : MemIs w base d hd v ys S fp) (hB : Below w.heap.size w w2) (y : CeR) (hok : okP y.x = true) (hs : SlAt w2 y.p y.c y.x.came) (hp : ∀ q, y.p = some q → w.heap.size ≤ q.block ∧ q.block < w2.heap.size)
  {n : Nat} (hn : n = ys.length + 1) (hown : w3.ownsRow base 61 7 v' n (ceRow ys ++ CeR.cells y)) (hg : w2.grownBy w3 v.ownBlock) (hst : Stayed w2 v v') (m : Int)
  (h4d : w4.heap[d]? = some (hd v' m)) (h4 : ∀ j, j ≠ d → w4.heap[j]? = w3.heap[j]?) (h4s : w4.heap.size = w3.heap.size) :
  MemIs w4 base d hd v' (ys ++ [y]) ⟨S.cs ++ [y.x], m⟩ (fun j => fp j ∨ (w.heap.size ≤ j ∧ j < w4.heap.size)) := by
 have hdl := H.lt _ H.fd
 have hvl := fun g hg => H.lt g (H.fv g hg)
 have hs2 := hB.size
 have hs3 := hg.size
 have hgd : ∀ g, v'.ownBlock = some g → g ≠ d := fun g hg' e => by
  subst e
  rcases hst _ hg' with h | h
  ·exact H.nd h
  ·omega
 have near : ∀ j, j < w2.heap.size → j ≠ d → v.ownBlock ≠ some j → w4.heap[j]? = w2.heap[j]? := fun j hj hjd hjv => (h4 j hjd).trans (hg.block j hj (fun e => hjv e.symm))
 have olds : ∀ z ∈ ys, ∀ q, z.p = some q → q.block < w.heap.size := fun z hz q e => H.lt _ (H.fs z hz q e)
 refine ⟨?_, fun z hz => ?_, h4d, ?_, fun z hz => ?_, .inl H.fd, fun g hg' => ?_, fun z hz q e => ?_, fun e => hgd d e rfl, fun z hz q e => ?_, fun k hk => ?_, H.bd⟩
 ·rw [List.map_append, ← H.cs]; rfl
 ·rcases List.mem_append.1 hz with h | h
  ·exact H.ok z h
  ·rw [List.mem_singleton.1 h]; exact hok
 ·rw [ceRow_snoc, List.length_append, List.length_singleton, ← hn]
  exact own_blk hown (fun g hg' => h4 g (hgd g hg'))
 ·rcases List.mem_append.1 hz with h | h
  ·refine (H.sl z h).blk (fun q e => ?_)
   have h1 := olds z h q e
   have h2 := H.ap z h q e
   exact (near _ (by omega) h2.1 h2.2).trans (hB.block _ h1)
  ·rw [List.mem_singleton.1 h]
   refine hs.blk (fun q e => ?_)
   have h1 := hp q e
   exact near _ h1.2 (by omega) (fun e2 => by have := hvl _ e2; omega)
 ·rcases hst g hg' with h | h
  ·exact .inl (H.fv g h)
  ·have := own_lt hown g hg'; exact .inr ⟨by omega, by omega⟩
 ·rcases List.mem_append.1 hz with h | h
  ·exact .inl (H.fs z h q e)
  ·rw [List.mem_singleton.1 h] at e
   have h1 := hp q e
   exact .inr ⟨h1.1, by omega⟩
 ·rcases List.mem_append.1 hz with h | h
  ·refine ⟨(H.ap z h q e).1, fun e2 => ?_⟩
   rcases hst _ e2 with h3 | h3
   ·exact (H.ap z h q e).2 h3
   ·have := olds z h q e; omega
  ·rw [List.mem_singleton.1 h] at e
   have h1 := hp q e
   refine ⟨by omega, fun e2 => ?_⟩
   rcases hst _ e2 with h3 | h3
   ·have := hvl _ h3; omega
   ·omega
 ·rcases hk with h | h
  ·have := H.lt k h; omega
  ·exact h.2
def newE (l : List Ce) : Int := if 4096 < l.length then 3 else if l.all okP then 0 else 230
def NewTell (w : World) (hd : Value → Int → Obj) (l : List Ce) (e : Ending) (w' : World) : Prop :=
 (newE l = 0 ∧ ∃ d fp, e = .returned (.tuple #[.pointer (some ⟨d, 0, none⟩), i64 0]) ∧ MMach w' w.heap.size d hd ⟨l, 0⟩ fp ∧ (∀ k, fp k → w.heap.size ≤ k) ∧ Below w.heap.size w w') ∨
 (newE l ≠ 0 ∧ e = .returned (.tuple #[.pointer none, i64 (newE l)]) ∧ Below w.heap.size w w')
def NI (w : World) (hd : Value → Int → Obj) (zs : List CeR) (k : Nat) (wr : World) : Prop :=
 (∀ z ∈ zs.take k, okP z.x = true) ∧ Below w.heap.size w wr ∧ w.heap.size < wr.heap.size ∧ ∃ v ys, MemIs wr w.heap.size w.heap.size hd v ys ⟨(zs.take k).map CeR.x, 0⟩ (fun j => w.heap.size ≤ j ∧ j < wr.heap.size) ∧ ys.length = k
theorem NI.start (zs : List CeR) (hd : Value → Int → Obj) (hb : Below w.heap.size w w1) (h : w1.heap[w.heap.size]? = some (hd (.slice none 0 0) 0)) : NI w hd zs 0 w1 := by
 have hz := (Array.getElem?_eq_some_iff.1 h).1
 refine ⟨fun z hz => (by simp at hz), hb, hz, .slice none 0 0, [], ⟨rfl, fun y hy => (by cases hy), h, World.ownsRow_nil _ _ _ _, fun y hy => (by cases hy), ⟨Nat.le_refl _, hz⟩, fun g hg => (by cases hg), fun y hy => (by cases hy), fun e => (by cases e), fun y hy => (by cases hy), fun k hk => hk.2, Nat.le_refl _⟩, rfl⟩
theorem NI.push {zs : List CeR} {k : Nat} {wr : World} (hk : k < zs.length) {x : Ce} (hx : zs[k].x = x) (hok : okP x = true) (hbw : Below w.heap.size w wr) (hzw : w.heap.size < wr.heap.size) (hall : ∀ z ∈ zs.take k, okP z.x = true)
  (H : MemIs wr w.heap.size w.heap.size hd v ys ⟨(zs.take k).map CeR.x, 0⟩ (fun j => w.heap.size ≤ j ∧ j < wr.heap.size)) (hyl : ys.length = k)
  (hB : Below wr.heap.size wr w2) {p : Option Addr} {c : Nat} (hs : SlAt w2 p c x.came) (hp : ∀ q, p = some q → wr.heap.size ≤ q.block ∧ q.block < w2.heap.size)
  (hown : w3.ownsRow w.heap.size 61 7 v' (k + 1) (ceRow ys ++ CeR.cells ⟨x, p, c⟩)) (hg : w2.grownBy w3 v.ownBlock) (hst : Stayed w2 v v')
  (h4d : w4.heap[w.heap.size]? = some (hd v' 0)) (h4 : ∀ j, j ≠ w.heap.size → w4.heap[j]? = w3.heap[j]?) (h4s : w4.heap.size = w3.heap.size) (h4o : w4.os = w3.os ∧ w4.tape = w3.tape ∧ w4.output = w3.output) : NI w hd zs (k + 1) w4 := by
 have hs2 := hB.size
 have hs3 := hg.size
 refine ⟨fun z hz => ?_, ?_, by omega, v', ys ++ [⟨x, p, c⟩], ?_, by simp [hyl]⟩
 ·rw [take_succ zs k hk] at hz
  rcases List.mem_append.1 hz with h | h
  ·exact hall z h
  ·rw [List.mem_singleton.1 h, hx]; exact hok
 ·refine ⟨by rw [h4o.1, hg.os, hB.os, hbw.os], by rw [h4o.2.1, hg.tape, hB.tape, hbw.tape], by rw [h4o.2.2, hg.output, hB.output, hbw.output], by omega, fun j hj => ?_⟩
  refine (h4 j (by omega)).trans ((hg.block j (by omega) (fun e => ?_)).trans ((hB.block j (by omega)).trans (hbw.block j hj)))
  have := (H.fv j e.symm).1; omega
 ·have := (H.push hB ⟨x, p, c⟩ hok hs hp (by rw [hyl]) hown hg hst 0 h4d h4 h4s).wider (fp' := fun j => w.heap.size ≤ j ∧ j < w4.heap.size) (fun j hj => by rcases hj with h | h <;> omega) (fun j hj => hj.2)
  rw [take_succ zs k hk, List.map_append]
  show MemIs _ _ _ _ _ _ ⟨_ ++ [zs[k].x], 0⟩ _
  rw [hx]
  exact this
end Go.Proofs.YtabkmdhkfbcldaaGreat
namespace Go.Proofs.YtabkmdhkfbcldaaGreat
open Go.RowKit
theorem put7_grown (w : World) (g o : Nat) (y : CeR) : w.grownBy (put7 w g o y) (some g) := by
 unfold put7
 iterate 7 refine gtr ?_ (grown_set _ _ _ _)
 exact World.grownBy.refl _ _
structure DS (W4 : World) (g : Nat) (w' : World) : Prop where
 s : w'.heap.size = W4.heap.size
 b : ∀ j, j ≠ g → w'.heap[j]? = W4.heap[j]?
theorem DS.cell {W4 w' : World} {g j o : Nat} (h : DS W4 g w') (hj : j ≠ g) : w'.cell? ⟨j, o, none⟩ = W4.cell? ⟨j, o, none⟩ := World.cell?_of_block (a := ⟨j, o, none⟩) (h.b j hj)
theorem DS.set {W4 w' : World} {g : Nat} (h : DS W4 g w') (o : Nat) (u : Value) : DS W4 g (w'.setCell ⟨g, o, none⟩ u) :=
 ⟨by simpa using h.s, fun j hj => (Below.heap_setCell w' ⟨g, o, none⟩ u j hj).trans (h.b j hj)⟩
theorem DS.refl (W4 : World) (g : Nat) : DS W4 g W4 := ⟨rfl, fun _ _ => rfl⟩
theorem DS.drew {W4 w' : World} {g : Nat} (h : DS W4 g w') : DS W4 g w'.drew := ⟨h.s, h.b⟩
variable {W : World} {base d : Nat} {v : Value} {ys : List CeR} {S : Mem} {fp : Nat → Prop}
set_option maxRecDepth 100000 in
set_option maxHeartbeats 1000000 in
theorem do_ok (H : MMach W base d hdM S fp) (wk : Int) (a : Ac) (he : (S.look wk a).2.2 = 0) :
  Calls Tryz.prog 26 #[.pointer (some ⟨d, 0, none⟩), i64 wk, a.val] W (DoTell W base d hdM S fp wk a) := by
 have e1 : S.step wk a = ⟨S.cs.set a.cell.toNat (S.look wk a).1, IntKind.i64.wrap (S.steps + 1)⟩ := by unfold Mem.step; rw [if_pos he]
 have e2 : S.tell wk a = ((S.look wk a).2.1, 0) := by unfold Mem.tell; rw [if_pos he]
 unfold DoTell
 rw [e1, e2, IntWalk.i64_left]
 clear e1 e2
 obtain ⟨v, ys, h⟩ := H
 have HM := hid h
 have hr : 0 ≤ a.cell ∧ a.cell < ys.length := by
  by_cases hno : a.cell < 0 ∨ (ys.length : Int) ≤ a.cell
  ·rw [h.look_no hno] at he; cases he
  ·omega
 obtain ⟨k, hk⟩ : ∃ k : Nat, a.cell = k := ⟨a.cell.toNat, by omega⟩
 have hkl : k < ys.length := by omega
 have hokk : okP (S.look wk a).1 = true := by
  rw [h.look hkl hk] at he ⊢
  exact oneP_ok _ _ _ he
 have HOK := hid hokk
 have hbs : Hid (base ≤ W.heap.size) := Nat.le_trans h.bd (Nat.le_of_lt (h.lt _ h.fd))
 have HL := hid (fun w' (hb : Below W.heap.size W w') => look_any (h.below hb) wk a)
 obtain ⟨g, c, rfl, hlg⟩ := own_block h.own (by omega)
 obtain ⟨_, c1, c2⟩ := hdM_cells h.head
 have hld := (Array.getElem?_eq_some_iff.1 h.head).1
 clear h hr hokk
 obtain ⟨ak, ac, ao, an⟩ := a
 dsimp only at hk
 subst hk
 rw [Int.toNat_natCast]
 generalize S.look wk ⟨ak, k, ao, an⟩ = r at HL he HOK ⊢
 obtain ⟨⟨kind', n', owner', need', came', turns', there'⟩, V, E⟩ := r
 unfold CeTellL Ce.val Ac.val at HL
 unfold Ac.val
 dsimp only [List.cons_append, List.nil_append] at *
 subst he
 have hb0 : Hid (Below W.heap.size W (W.alloc (.cells #[i64 ak, i64 k, i64 ao, i64 an] 75))) := (Below.refl _ _).alloc (Nat.le_refl _) _
 go_enter Tryz.func26, Tryz.ntmps26
 go_upto_region 4 with (go_at_call 42; (with_reducible refine (HL.out _ hb0.out).mono ?_); rintro e w3 ⟨p3, c3, rfl, hs3, hl3, hb3⟩; have HB3 := hid (below_more hb3 hb0.out (Nat.le_refl _)); have HBA := hid hb3; have HS3 := hid hs3; have HL3 := hid hl3; clear hs3 hl3 hb3)
 have hz3 := HB3.out.size
 have hgd : g ≠ d := fun e => HM.out.nd (by rw [← e]; rfl)
 have hd3 : d < w3.heap.size := by omega
 have hg3 : g < w3.heap.size := by have := hlg.2.1; omega
 obtain ⟨W4, hW4⟩ : ∃ W4, W4 = w3.alloc (.cells #[i64 kind', i64 n', i64 owner', i64 need', .slice p3 came'.length c3, i64 turns', .bool there'] 61) := ⟨_, rfl⟩
 rw [← hW4]
 have hb34 : Below w3.heap.size w3 W4 := by rw [hW4]; exact (Below.refl _ _).alloc (Nat.le_refl _) _
 have hz4 : W4.heap.size = w3.heap.size + 1 := by rw [hW4]; simp
 have hA : AcBlk W4 W.heap.size ⟨ak, k, ao, an⟩ := ((acblk_new W ⟨ak, k, ao, an⟩).below HBA.out).below hb34
 have hC : CeBlk W4 w3.heap.size ⟨kind', n', owner', need', came', turns', there'⟩ p3 c3 := by rw [hW4]; exact ceblk_new w3 ⟨kind', n', owner', need', came', turns', there'⟩ p3 c3
 have hb4 : Below W.heap.size W W4 := HB3.out.trans (hb34.mono HB3.out.size)
 have HM4 := hid (HM.out.below hb4)
 have q0 : ∀ w', DS W4 g w' → w'.cell? ⟨d, 1, none⟩ = some (.slice (some ⟨g, 0, none⟩) ys.length c) := fun w' h => (h.cell (Ne.symm hgd)).trans ((hb4.cell (p := ⟨d, 1, none⟩) hld).trans c1)
 have hgW : g < W.heap.size := hlg.2.1
 have hd2 : W4.cell? ⟨d, 2, none⟩ = some (i64 S.steps) := (hb4.cell (p := ⟨d, 2, none⟩) hld).trans c2
 have hfd : W4.frozen? ⟨d, 2, none⟩ = false := frozen_of_row _ _ _ _ _ HM4.out.head
 have hne0 : d ≠ g := Ne.symm hgd
 have a1 : ∀ w', DS W4 g w' → w'.cell? ⟨W.heap.size, 1, none⟩ = some (i64 k) := fun w' h => (h.cell (by omega)).trans hA.facts.1.2.1
 have cc : ∀ w' (o : Nat), DS W4 g w' → w'.cell? ⟨w3.heap.size, o, none⟩ = W4.cell? ⟨w3.heap.size, o, none⟩ := fun w' o h => h.cell (by omega)
 obtain ⟨⟨y0, y1, y2, y3, y4, y5, y6⟩, yf, yl⟩ := hC.facts
 dsimp only at y0 y1 y2 y3 y4 y5 y6
 have b0 := fun w' (h : DS W4 g w') => (cc w' 0 h).trans y0
 have b1 := fun w' (h : DS W4 g w') => (cc w' 1 h).trans y1
 have b2 := fun w' (h : DS W4 g w') => (cc w' 2 h).trans y2
 have b3 := fun w' (h : DS W4 g w') => (cc w' 3 h).trans y3
 have b4 := fun w' (h : DS W4 g w') => (cc w' 4 h).trans y4
 have b5 := fun w' (h : DS W4 g w') => (cc w' 5 h).trans y5
 have b6 := fun w' (h : DS W4 g w') => (cc w' 6 h).trans y6
 clear cc y0 y1 y2 y3 y4 y5 y6 yf
 have hr4 : Row W4 (some ⟨g, 0, none⟩) (ceRow ys) := by
  obtain ⟨p, c', e, hr⟩ := own_shape HM4.out.own
  injection e with e1; rw [e1]; exact hr
 obtain ⟨r0, r1, r2, r3, r4, r5, r6⟩ := ce_cells hr4 k hkl
 simp only [Nat.zero_add] at r0 r1 r2 r3 r4 r5 r6
 have gf : ∀ o, W4.frozen? ⟨g, o, none⟩ = false := fun o => by
  rcases HM4.out.own.2 with ⟨h0, _⟩ | ⟨g', cap, cur, hv, _, hh, _⟩
  ·cases h0
  ·cases hv; exact frozen_of_row _ _ _ _ _ hh
 have hlen : ys.length ≤ maxLen := Nat.le_trans hlg.2.2.1 hlg.2.2.2
 unfold maxLen at hlen
 have hkI : (k : Int) < ys.length := by omega
 have hk0 : (0 : Int) ≤ (k : Int) := by omega
 have HZ := hid (And.intro hz4 (And.intro hd3 hg3))
 have HQ : Hid (∀ q, p3 = some q → W.heap.size ≤ q.block ∧ q.block < W4.heap.size ∧ q.block ≠ d ∧ q.block ≠ g) := fun q hq => by
  have h1 := HL3.out q hq
  simp only [World.size_alloc] at h1
  omega
 have HGD := hid hgd
 have HB34 := hid hb34
 have HB4 := hid hb4
 have HKL := hid hkl
 have HLD := hid hld
 have HYL := hid yl
 clear hC hA hr4 hW4 c1 c2 hz3 hlg hbs hb34 hd3 hz4 yl
 have hDS : DS W4 g W4.drew := ⟨rfl, fun _ _ => rfl⟩
 go_region_held3 (fun w' => DS W4 g w') (first | (with_reducible assumption) | (with_reducible ((repeat (first | refine DS.drew ?_ | refine DS.set ?_ _ _)); exact DS.refl _ _))) (first | fail)
 go_wp2_with fail
 have hfpg : fp g := HM.out.fv g rfl
 have hbg : base ≤ g := own_ge HM.out.own g rfl
 have hbdl := HM.out.lt _ HM.out.fd
 obtain ⟨w5, hw5⟩ : ∃ w5, w5 = put7 W4 g (k * 7) ⟨⟨kind', n', owner', need', came', turns', there'⟩, p3, c3⟩ := ⟨_, rfl⟩
 have ho5 : ∀ j, j ≠ g → w5.heap[j]? = W4.heap[j]? := fun j hj => by rw [hw5]; exact put7_other _ _ _ _ _ hj
 have hz5 : w5.heap.size = W4.heap.size := by rw [hw5]; exact put7_size _ _ _ _
 have hq5 : w5.os = W4.os ∧ w5.tape = W4.tape ∧ w5.output = W4.output := by rw [hw5]; exact ⟨(put7_grown _ _ _ _).os, (put7_grown _ _ _ _).tape, (put7_grown _ _ _ _).output⟩
 have HP := HM4.out.put k HKL.out ⟨⟨kind', n', owner', need', came', turns', there'⟩, p3, c3⟩ HOK.out ((HS3.out).below HB34.out) (fun q hq => ⟨(HQ.out q hq).2.1, (HQ.out q hq).2.2.1, (HQ.out q hq).2.2.2⟩) (wrap64 (S.steps + 1)) (w2 := (w5.setCell ⟨d, 2, none⟩ (i64 (wrap64 (S.steps + 1)))).drew)
  (heap_setCell_same w5 d 2 _ _ _ ((ho5 _ hne0).trans HM4.out.head)) (fun j hj => by rw [← hw5]; exact Below.heap_setCell _ _ _ _ hj) (by simp [hz5])
 have hother : ∀ j, j < W.heap.size → j ≠ d → j ≠ g → ((w5.setCell ⟨d, 2, none⟩ (i64 (wrap64 (S.steps + 1)))).drew).heap[j]? = W.heap[j]? := fun j hj h1 h2 =>
  (Below.heap_setCell _ _ _ _ h1).trans ((ho5 _ h2).trans (HB4.out.block j hj))
 have hsz : W.heap.size ≤ ((w5.setCell ⟨d, 2, none⟩ (i64 (wrap64 (S.steps + 1)))).drew).heap.size := by
  have := HB4.out.size
  simp [hz5]; omega
 have hq6 : ((w5.setCell ⟨d, 2, none⟩ (i64 (wrap64 (S.steps + 1)))).drew).os = W4.os ∧ ((w5.setCell ⟨d, 2, none⟩ (i64 (wrap64 (S.steps + 1)))).drew).tape = W4.tape ∧ ((w5.setCell ⟨d, 2, none⟩ (i64 (wrap64 (S.steps + 1)))).drew).output = W4.output :=
  ⟨(grown_set w5 d 2 (i64 (wrap64 (S.steps + 1)))).os.trans hq5.1, (grown_set w5 d 2 (i64 (wrap64 (S.steps + 1)))).tape.trans hq5.2.1, (grown_set w5 d 2 (i64 (wrap64 (S.steps + 1)))).output.trans hq5.2.2⟩
 unfold put7 at hw5
 dsimp only at hw5
 rw [← hw5]
 exact bodyPost_ret (v := .tuple #[i64 V, i64 0]) (by simp [results, Tryz.results26, go_sem]) rfl ⟨rfl, _, ⟨_, _, HP⟩, fun j hj => by
   rcases hj with h | ⟨q, hq, rfl⟩
   ·exact .inl h
   ·exact .inr (HQ.out q hq).1,
  ⟨hq6.1.trans HB4.out.os, hq6.2.1.trans HB4.out.tape, hq6.2.2.trans HB4.out.output, hsz, fun j hj hn => hother j hj (fun e => hn (e ▸ HM.out.fd)) (fun e => hn (e ▸ hfpg))⟩,
  ⟨hq6.1.trans HB4.out.os, hq6.2.1.trans HB4.out.tape, hq6.2.2.trans HB4.out.output, hsz, fun j hj => hother j (by have := HM.out.bd; omega) (by have := HM.out.bd; omega) (by omega)⟩⟩
theorem do_any (H : MMach W base d hdM S fp) (wk : Int) (a : Ac) :
  Calls Tryz.prog 26 #[.pointer (some ⟨d, 0, none⟩), i64 wk, a.val] W (DoTell W base d hdM S fp wk a) := by
 by_cases he : (S.look wk a).2.2 = 0
 ·exact do_ok H wk a he
 ·exact do_err H wk a he
end Go.Proofs.YtabkmdhkfbcldaaGreat
namespace Go.Proofs.YtabkmdhkfbcldaaGreat
open Go.RowKit
variable {W w : World}
set_option maxRecDepth 100000 in
set_option maxHeartbeats 1000000 in
theorem new_long (p : Option Addr) (c : Nat) (zs : List CeR) (w : World) (hc : zs.length ≤ c) (hm : c ≤ maxLen) (hl : 4096 < zs.length) :
  Calls Tryz.prog 21 #[.slice p zs.length c] w (NewTell w hdM (zs.map CeR.x)) := by
 have hE : Hid (newE (zs.map CeR.x) = 3) := by unfold newE; rw [if_pos (by simpa using hl)]; exact rfl
 unfold maxLen at hm
 go_enter Tryz.func21, Tryz.ntmps21
 go_wp2
 go_ret2
 exact .inr ⟨by rw [hE.out]; decide, by rw [hE.out]; rfl, Below.refl _ _⟩
set_option maxRecDepth 100000 in
set_option maxHeartbeats 4000000 in
theorem new_walk (p : Option Addr) (c : Nat) (zs : List CeR) (w : World) (hc : zs.length ≤ c) (hm : c ≤ maxLen) (hrow : Row w p (ceRow zs)) (hsl : ∀ z ∈ zs, SlAt w z.p z.c z.x.came) (hcm : ∀ z ∈ zs, z.x.came.length ≤ 17592186043904) (hl : zs.length ≤ 4096) :
  Calls Tryz.prog 21 #[.slice p zs.length c] w (NewTell w hdM (zs.map CeR.x)) := by
 unfold maxLen at hm
 have HR := hid hrow
 have HSL := hid hsl
 have HCM := hid hcm
 clear hrow hsl hcm
 go_enter Tryz.func21, Tryz.ntmps21
 go_wp2
 go_loopw [15] (fun i wr => ∃ k : Nat, k ≤ zs.length ∧ i = .int .i64 k ∧ NI w hdM zs k wr) (fun i _ => zs.length - (intOf i).toNat)
 case atStart => exact ⟨0, Nat.zero_le _, rfl, NI.start zs hdM ((Below.refl _ _).alloc (Nat.le_refl _) _) (heap_alloc_new w _)⟩
 case round =>
  obtain ⟨k, hk, rfl, hall, hbw, hzw, v, ys, H, hyl⟩ := hrel
  have HALL := hid hall
  have HB := hid hbw
  have HM := hid H
  have HYL := hid hyl
  clear hall hbw H hyl
  by_cases hlt : k < zs.length
  ·have hltI : (k : Int) < zs.length := by omega
   have hmem := List.getElem_mem hlt
   have hs := HSL.out _ hmem
   have hcm := HCM.out _ hmem
   obtain ⟨b, o, rfl, hbz, _⟩ := HR.out.at (by rw [ceRow_len]; omega)
   obtain ⟨r0, r1, r2, r3, r4, r5, r6⟩ := ce_cells (HR.out.below HB.out) k hlt
   have HOKK := hid (fun (e : okP zs[k].x = true) => e)
   obtain ⟨y, hy⟩ : ∃ y, y = zs[k] := ⟨_, rfl⟩
   rw [← hy] at r0 r1 r2 r3 r4 r5 r6 hs hcm
   have HY := hid hy
   clear hy
   have HCK := hid (fun w1 (hb : Below w.heap.size w w1) => check_any y.x y.p y.c w1 (hs.below hb) hcm)
   have HCP := hid (fun w1 (hb : Below w.heap.size w w1) => copied_any y.x y.p y.c w1 hcm (hs.below hb))
   clear hs hmem
   obtain ⟨⟨kind, n, owner, need, came, turns, there⟩, yp, yc⟩ := y
   unfold CopyTell at HCP
   unfold Ce.val at HCK HCP
   dsimp only at *
   by_cases hok : okP ⟨kind, n, owner, need, came, turns, there⟩ = true
   ·have hck : ckP ⟨kind, n, owner, need, came, turns, there⟩ = 0 := by unfold ckP; rw [if_pos hok]
    rw [hck] at HCK
    have HOK := hid hok
    clear hok hck HOKK
    go_upto_region 10 with (go_at_call 37; (with_reducible refine (HCK.out _ (HB.out.alloc HB.out.size _)).mono ?_); rintro e w1 ⟨rfl, hb1⟩; have HB1 := hid hb1; clear hb1)
    have hB1 : Below wr.heap.size wr w1 := ((Below.refl _ wr).alloc (Nat.le_refl _) _).trans (HB1.out.mono (by simp))
    have hz1 : wr.heap.size + 1 ≤ w1.heap.size := by have := HB1.out.size; rwa [World.size_alloc] at this
    have hC1 : CeBlk w1 wr.heap.size ⟨kind, n, owner, need, came, turns, there⟩ yp yc := (ceblk_new wr ⟨kind, n, owner, need, came, turns, there⟩ yp yc).below HB1.out
    obtain ⟨⟨y0, y1, y2, y3, y4, y5, y6⟩, yf, yl⟩ := hC1.facts
    dsimp only at y0 y1 y2 y3 y4 y5 y6
    have hD1 : w1.heap[w.heap.size]? = some (hdM v 0) := (hB1.block _ hzw).trans HM.out.head
    obtain ⟨_, d1, _⟩ := hdM_cells hD1
    have HD1 := hid hD1
    have HBB := hid hB1
    clear hD1 hC1 yf yl r0 r1 r2 r3 r4 r5 r6 hB1
    go_region_law (first
     | (go_loud (refine step_app ECell rfl (.tmp 28) (.tmp 31) rfl w.heap.size v k (ceRow ys) rfl ((HOWN3.out).alloc _) ⟨_, 0, none⟩ 1 1 (CeR.cells ⟨⟨kind, n, owner, need, came, turns, there⟩, p3, c3⟩) rfl rfl (row_newAt _ _ _ _ (by simp)) (ceCells_one _) (by unfold maxLen; omega) (by omega) (by simp; omega) ?_); intro v4 w4 ho4 hg4 hs4; obtain ⟨vp4, vc4, rfl, _⟩ := own_row ho4; have HD4 : Hid (w4.heap[w.heap.size]? = some (hdM v 0)) := (hg4.block _ (by simp; omega) (fun e => HM.out.nd e.symm)).trans ((Below.heap_alloc _ _ _ (by omega)).trans HD3.out); have d4 := (hdM_cells HD4.out).2.1; have f4 : w4.frozen? ⟨w.heap.size, 1, none⟩ = false := frozen_of_row _ _ _ _ _ HD4.out; have HO4 := hid ho4; have HG4 := hid hg4; have HS4 := hid hs4; clear ho4 hg4 hs4)
     | (go_simp; go_at_call 38; (with_reducible refine (HCP.out _ (by first | exact HB.out.trans (HBB.out.mono HB.out.size) | exact (HB.out.trans (HBB.out.mono HB.out.size)).drew)).mono ?_); rintro e w3 ⟨p3, c3, rfl, ho3, hb3⟩; have HO3 := hid ho3; have hb3' : Below w1.heap.size w1 w3 := ⟨hb3.os, hb3.tape, hb3.output, hb3.size, hb3.block⟩; have HB3 := hid hb3'; have hbr3 : Below wr.heap.size wr w3 := HBB.out.trans (hb3'.mono HBB.out.size); have HOWN3 : Hid (w3.ownsRow w.heap.size 61 7 v k (ceRow ys)) := (by have := own_below HM.out.own hbr3; rw [HYL.out] at this; exact this); have hz3 : w1.heap.size ≤ w3.heap.size := hb3'.size;  have hzw3 : w.heap.size < w3.heap.size := (by omega); have d3 : w3.cell? ⟨w.heap.size, 1, none⟩ = some v := (hb3'.cell (p := ⟨w.heap.size, 1, none⟩) (by show w.heap.size < _; omega)).trans d1; have HD3 : Hid (w3.heap[w.heap.size]? = some (hdM v 0)) := (hb3'.block _ (by omega)).trans HD1.out; have HBR3 := hid hbr3; clear ho3 hb3 hb3' hbr3))
    all_goals
     go_wp2_with fail
     go_roundw
     case rel =>
      refine ⟨k + 1, by omega, by go_num, NI.push hlt (by rw [← HY.out]) HOK.out HB.out hzw HALL.out HM.out HYL.out (w2 := w3.alloc (.cells #[i64 kind, i64 n, i64 owner, i64 need, .slice p3 came.length c3, i64 turns, .bool there] 61)) (HBR3.out.alloc HBR3.out.size _) ((own_slat HO3.out).alloc _) (fun q hq => ?_) HO4.out HG4.out HS4.out (heap_setCell_same w4 w.heap.size 1 _ _ _ HD4.out) (fun j hj => Below.heap_setCell _ _ _ _ hj) (by simp) ⟨(grown_set w4 _ _ _).os, (grown_set w4 _ _ _).tape, (grown_set w4 _ _ _).output⟩⟩
      have h1 : w1.heap.size ≤ q.block := own_ge HO3.out q.block (by subst hq; rfl)
      have h2 := own_lt HO3.out q.block (by subst hq; rfl)
      exact ⟨by omega, by simp; omega⟩
     case measure => simp [intOf]; omega
   ·have hck : ckP ⟨kind, n, owner, need, came, turns, there⟩ = 230 := by unfold ckP; rw [if_neg hok]
    rw [hck] at HCK
    have HNO := hid hok
    clear hok hck HOKK
    go_wp2_with (go_at_call 37; (with_reducible refine (HCK.out _ (HB.out.alloc HB.out.size _)).mono ?_); rintro e w1 ⟨rfl, hb1⟩; have HB1 := hid hb1; clear hb1)
    go_ret2
    have hE : newE (zs.map CeR.x) = 230 := by
     unfold newE
     rw [if_neg (by simpa using hl), if_neg]
     intro h
     have h2 := List.all_eq_true.1 h zs[k].x (List.mem_map_of_mem (List.getElem_mem hlt))
     rw [← HY.out] at h2
     exact HNO.out h2
    exact .inr ⟨by rw [hE]; decide, by rw [hE]; rfl, HB.out.trans ((((Below.refl _ wr).alloc (Nat.le_refl _) _).trans (HB1.out.mono (by simp))).mono HB.out.size)⟩
  ·go_wp2
   go_ret2
   have hkl : k = zs.length := by omega
   have hE : newE (zs.map CeR.x) = 0 := by
    unfold newE
    rw [if_neg (by simpa using hl), if_pos]
    refine List.all_eq_true.2 (fun x hx => ?_)
    obtain ⟨z, hz, rfl⟩ := List.mem_map.1 hx
    exact HALL.out z (by rw [hkl, List.take_length]; exact hz)
   have HM2 := HM.out
   rw [hkl, List.take_length] at HM2
   exact .inl ⟨hE, _, _, rfl, ⟨_, _, HM2⟩, fun k hk => hk.1, HB.out⟩
theorem new_any (p : Option Addr) (c : Nat) (zs : List CeR) (w : World) (hc : zs.length ≤ c) (hm : c ≤ maxLen) (hrow : Row w p (ceRow zs)) (hsl : ∀ z ∈ zs, SlAt w z.p z.c z.x.came) (hcm : ∀ z ∈ zs, z.x.came.length ≤ 17592186043904) :
  Calls Tryz.prog 21 #[.slice p zs.length c] w (NewTell w hdM (zs.map CeR.x)) := by
 by_cases hl : 4096 < zs.length
 ·exact new_long p c zs w hc hm hl
 ·exact new_walk p c zs w hc hm hrow hsl hcm (by omega)
end Go.Proofs.YtabkmdhkfbcldaaGreat
namespace Go.Proofs.YtabkmdhkfbcldaaGreat
open Go.RowKit
set_option maxHeartbeats 1000000 in
theorem make_any (k n : Int) (w : World) : Calls Tryz.prog 20 #[i64 k, i64 n] w (CeTell (makeP k n).1 [i64 (makeP k n).2] w) := by
 by_cases h1 : k < 1
 ·have HP : Hid (makeP k n = (ce0, 1)) := by simp only [Hid, makeP]; rw [if_pos (by simp [badMk]; omega)]
  have e1 : decide (k < 1) = true := by rw [decide_eq_true_iff]; omega
  clear h1
  go_enter Tryz.func20, Tryz.ntmps20
  go_wp2_with fail
  exact bodyPost_ret (v := .tuple #[ce0.val none 0, i64 1]) (by simp [results, Tryz.results20, go_sem, ce0, Ce.val]) rfl (by rw [HP.out]; exact ⟨none, 0, rfl, slat_nil _, (Below.refl _ _).alloc (Nat.le_refl _) _⟩)
 ·by_cases h2 : 4 < k
  ·have HP : Hid (makeP k n = (ce0, 1)) := by simp only [Hid, makeP]; rw [if_pos (by simp [badMk]; omega)]
   have e1 : decide (k < 1) = false := by rw [decide_eq_false_iff_not]; omega
   have e2 : decide (4 < k) = true := by rw [decide_eq_true_iff]; omega
   clear h1 h2
   go_enter Tryz.func20, Tryz.ntmps20
   go_wp2_with fail
   exact bodyPost_ret (v := .tuple #[ce0.val none 0, i64 1]) (by simp [results, Tryz.results20, go_sem, ce0, Ce.val]) rfl (by rw [HP.out]; exact ⟨none, 0, rfl, slat_nil _, (Below.refl _ _).alloc (Nat.le_refl _) _⟩)
  ·by_cases h3 : k = 3
   ·by_cases h4 : n < 1
    ·have HP : Hid (makeP k n = (ce0, 1)) := by simp only [Hid, makeP]; rw [if_pos (by simp [badMk]; omega)]
     have e1 : decide (k < 1) = false := by rw [decide_eq_false_iff_not]; omega
     have e2 : decide (4 < k) = false := by rw [decide_eq_false_iff_not]; omega
     have e3 : (k == 3) = true := by rw [beq_iff_eq]; omega
     have e3b : (k != 3) = false := by rw [bne_eq_false_iff_eq]; omega
     have e4 : decide (n < 1) = true := by rw [decide_eq_true_iff]; omega
     clear h1 h2 h3 h4
     go_enter Tryz.func20, Tryz.ntmps20
     go_wp2_with fail
     exact bodyPost_ret (v := .tuple #[ce0.val none 0, i64 1]) (by simp [results, Tryz.results20, go_sem, ce0, Ce.val]) rfl (by rw [HP.out]; exact ⟨none, 0, rfl, slat_nil _, (Below.refl _ _).alloc (Nat.le_refl _) _⟩)
    ·by_cases h5 : 64 < n
     ·have HP : Hid (makeP k n = (ce0, 1)) := by simp only [Hid, makeP]; rw [if_pos (by simp [badMk]; omega)]
      have e1 : decide (k < 1) = false := by rw [decide_eq_false_iff_not]; omega
      have e2 : decide (4 < k) = false := by rw [decide_eq_false_iff_not]; omega
      have e3 : (k == 3) = true := by rw [beq_iff_eq]; omega
      have e3b : (k != 3) = false := by rw [bne_eq_false_iff_eq]; omega
      have e4 : decide (n < 1) = false := by rw [decide_eq_false_iff_not]; omega
      have e5 : decide (64 < n) = true := by rw [decide_eq_true_iff]; omega
      clear h1 h2 h3 h4 h5
      go_enter Tryz.func20, Tryz.ntmps20
      go_wp2_with fail
      exact bodyPost_ret (v := .tuple #[ce0.val none 0, i64 1]) (by simp [results, Tryz.results20, go_sem, ce0, Ce.val]) rfl (by rw [HP.out]; exact ⟨none, 0, rfl, slat_nil _, (Below.refl _ _).alloc (Nat.le_refl _) _⟩)
     ·have HP : Hid (makeP k n = (⟨k, 0, -1, n, [], 0, false⟩, 0)) := by simp only [Hid, makeP]; rw [if_neg (by simp [badMk]; omega)]
      have e1 : decide (k < 1) = false := by rw [decide_eq_false_iff_not]; omega
      have e2 : decide (4 < k) = false := by rw [decide_eq_false_iff_not]; omega
      have e3 : (k == 3) = true := by rw [beq_iff_eq]; omega
      have e3b : (k != 3) = false := by rw [bne_eq_false_iff_eq]; omega
      have e4 : decide (n < 1) = false := by rw [decide_eq_false_iff_not]; omega
      have e5 : decide (64 < n) = false := by rw [decide_eq_false_iff_not]; omega
      clear h1 h2 h3 h4 h5
      go_enter Tryz.func20, Tryz.ntmps20
      go_wp2_with fail
      exact bodyPost_ret (v := .tuple #[(Ce.mk k 0 (-1) n [] 0 false).val none 0, i64 0]) (by simp [results, Tryz.results20, go_sem, Ce.val]) rfl (by rw [HP.out]; exact ⟨none, 0, rfl, slat_nil _, (Below.refl _ _).alloc (Nat.le_refl _) _⟩)
   ·by_cases h4 : n = 0
    ·have HP : Hid (makeP k n = (⟨k, 0, -1, n, [], 0, false⟩, 0)) := by simp only [Hid, makeP]; rw [if_neg (by simp [badMk]; omega)]
     have e1 : decide (k < 1) = false := by rw [decide_eq_false_iff_not]; omega
     have e2 : decide (4 < k) = false := by rw [decide_eq_false_iff_not]; omega
     have e3 : (k == 3) = false := by rw [beq_eq_false_iff_ne]; omega
     have e3b : (k != 3) = true := by rw [bne_iff_ne]; omega
     have e4 : (n != 0) = false := by rw [bne_eq_false_iff_eq]; omega
     clear h1 h2 h3 h4
     go_enter Tryz.func20, Tryz.ntmps20
     go_wp2_with fail
     exact bodyPost_ret (v := .tuple #[(Ce.mk k 0 (-1) n [] 0 false).val none 0, i64 0]) (by simp [results, Tryz.results20, go_sem, Ce.val]) rfl (by rw [HP.out]; exact ⟨none, 0, rfl, slat_nil _, (Below.refl _ _).alloc (Nat.le_refl _) _⟩)
    ·have HP : Hid (makeP k n = (ce0, 1)) := by simp only [Hid, makeP]; rw [if_pos (by simp [badMk]; omega)]
     have e1 : decide (k < 1) = false := by rw [decide_eq_false_iff_not]; omega
     have e2 : decide (4 < k) = false := by rw [decide_eq_false_iff_not]; omega
     have e3 : (k == 3) = false := by rw [beq_eq_false_iff_ne]; omega
     have e3b : (k != 3) = true := by rw [bne_iff_ne]; omega
     have e4 : (n != 0) = true := by rw [bne_iff_ne]; omega
     clear h1 h2 h3 h4
     go_enter Tryz.func20, Tryz.ntmps20
     go_wp2_with fail
     exact bodyPost_ret (v := .tuple #[ce0.val none 0, i64 1]) (by simp [results, Tryz.results20, go_sem, ce0, Ce.val]) rfl (by rw [HP.out]; exact ⟨none, 0, rfl, slat_nil _, (Below.refl _ _).alloc (Nat.le_refl _) _⟩)
end Go.Proofs.YtabkmdhkfbcldaaGreat
namespace Go.Proofs.YtabkmdhkfbcldaaGreat
open Go.RowKit
def Ak.cells (a : Ak) : List Value := [.int .i64 a.kind, .string a.key, .int .i64 a.value]
def Cl.cells (c : Cl) : List Value := [.int .i64 c.w, .int .i64 c.kind, .string c.key, .int .i64 c.value, .int .i64 c.fr, .int .i64 c.to, .int .i64 c.ans, .int .i64 c.err]
def lockCe (o : Int) : Ce := ⟨2, 0, o, 0, [], 0, false⟩
def natV (n : Nat) : Value := .int .i64 (n : Int)
structure TB where
 m : Nat
 bh : Nat
 bv : Nat
 bt : Nat
 vw : Value
 va : Value
 vp : Value
 ws : List (Option Addr × Nat)
 pr : Nat → Bool
 hb : Nat → Nat
 hv : Nat → Int
 hm : List (Int × Value)
 vm : List (ByteArray × Int)
 tm : List (ByteArray × Bool)
 lm : Mem
 fm : Nat → Prop
def wkV (l : List Ak) (p : Option Addr × Nat) : Value := .slice p.1 l.length p.2
def TB.ask (B : TB) (K : Wk) (w : Nat) : Value := .slice (B.ws.getD w (none, 0)).1 (K.own w).length (B.ws.getD w (none, 0)).2
def TB.mine (B : TB) (K : Wk) (t b : Nat) : Prop :=
 b = t ∨ b = B.bh ∨ b = B.bv ∨ b = B.bt ∨ B.vw.ownBlock = some b ∨ B.va.ownBlock = some b ∨ B.vp.ownBlock = some b ∨ (∃ w, w < K.work.length ∧ (B.ask K w).ownBlock = some b) ∨ ∃ w, B.pr w = true ∧ B.hb w = b
structure TabIs (W : World) (base t : Nat) (K : Wk) (S : Sh) (B : TB) : Prop where
 head : W.heap[t]? = some (.cells #[.pointer (some ⟨B.m, 0, none⟩), .int .i64 K.shards, B.vw, B.va, .map (some B.bh), .map (some B.bv), .map (some B.bt), B.vp, .int .i64 S.steps] 58 (0, 0))
 mem : MMach W base B.m hdM B.lm B.fm
 lm : B.lm.cs = S.locks.map lockCe
 work : W.ownsRow base 47 1 B.vw K.work.length (List.zipWith wkV K.work B.ws)
 asks : ∀ w, w < K.work.length → W.ownsRow base 46 3 (B.ask K w) (K.own w).length ((K.own w).flatMap Ak.cells)
 ats : W.ownsRow base 3 1 B.va S.next.length (S.next.map natV)
 hands : MapIs (Value.int .i64) id W B.bh B.hm
 free : ∀ w : Nat, B.pr w = false → alook B.hm (w : Int) = none ∧ (S.hand w).at_ = 0
 hand : ∀ w : Nat, B.pr w = true → alook B.hm (w : Int) = some (.pointer (some ⟨B.hb w, 0, none⟩)) ∧ W.heap[B.hb w]? = some (.cells #[.int .i64 ((S.hand w).call : Nat), .int .i64 ((S.hand w).at_ : Nat), .bool (S.hand w).found, .int .i64 (B.hv w)] 71 (0, 0))
 vals : MapIs Value.string (Value.int .i64) W B.bv B.vm
 valIs : ∀ k, alook B.vm k = S.get k
 told : MapIs Value.string Value.bool W B.bt B.tm
 toldIs : ∀ k, (alook B.tm k).getD false = S.toldN k
 past : W.ownsRow base 35 8 B.vp S.calls.length (S.calls.flatMap Cl.cells)
 wsl : B.ws.length = K.work.length
 nxl : S.next.length = K.work.length
 hnl : S.hands.length = K.work.length
 lkl : S.locks.length = K.shards
 mp : B.bh ≠ B.bv ∧ B.bh ≠ B.bt ∧ B.bv ≠ B.bt
 hi : ∀ w w', B.pr w = true → B.pr w' = true → B.hb w = B.hb w' → w = w'
 ap : ∀ b, B.mine K t b → ¬ B.fm b ∧ base ≤ b ∧ b < W.heap.size
 nxt : ∀ w, w < K.work.length → S.next.getD w 0 ≤ (K.own w).length
 hnd : (B.hm.map Prod.fst).Nodup
theorem TabIs.below {W W' : World} {base t : Nat} {K : Wk} {S : Sh} {B : TB} (h : TabIs W base t K S B) (hb : Below W.heap.size W W') : TabIs W' base t K S B :=
 ⟨(hb.block _ (Array.getElem?_eq_some_iff.1 h.head).1).trans h.head, h.mem.below hb, h.lm, own_below h.work hb, fun w hw => own_below (h.asks w hw) hb, own_below h.ats hb, h.hands.below hb h.hands.lt, h.free,
  fun w hw => ⟨(h.hand w hw).1, (hb.block _ (Array.getElem?_eq_some_iff.1 (h.hand w hw).2).1).trans (h.hand w hw).2⟩, h.vals.below hb h.vals.lt, h.valIs, h.told.below hb h.told.lt, h.toldIs, own_below h.past hb, h.wsl, h.nxl, h.hnl, h.lkl, h.mp, h.hi, fun b hm => ⟨(h.ap b hm).1, (h.ap b hm).2.1, Nat.lt_of_lt_of_le (h.ap b hm).2.2 hb.size⟩, h.nxt, h.hnd⟩
theorem tab_cells {W : World} {t : Nat} {v0 v1 v2 v3 v4 v5 v6 v7 v8 : Value} (h : W.heap[t]? = some (.cells #[v0, v1, v2, v3, v4, v5, v6, v7, v8] 58 (0, 0))) :
  W.cell? ⟨t, 0, none⟩ = some v0 ∧ W.cell? ⟨t, 1, none⟩ = some v1 ∧ W.cell? ⟨t, 2, none⟩ = some v2 ∧ W.cell? ⟨t, 3, none⟩ = some v3 ∧ W.cell? ⟨t, 4, none⟩ = some v4 ∧ W.cell? ⟨t, 5, none⟩ = some v5 ∧ W.cell? ⟨t, 6, none⟩ = some v6 ∧ W.cell? ⟨t, 7, none⟩ = some v7 ∧ W.cell? ⟨t, 8, none⟩ = some v8 :=
 ⟨cell_of_row _ _ 0 _ _ _ h, cell_of_row _ _ 1 _ _ _ h, cell_of_row _ _ 2 _ _ _ h, cell_of_row _ _ 3 _ _ _ h, cell_of_row _ _ 4 _ _ _ h, cell_of_row _ _ 5 _ _ _ h, cell_of_row _ _ 6 _ _ _ h, cell_of_row _ _ 7 _ _ _ h, cell_of_row _ _ 8 _ _ _ h⟩
section
variable {W : World} {base t : Nat} {K : Wk} {S : Sh} {B : TB}
theorem TabIs.workAt (h : TabIs W base t K S B) (hn : 0 < K.work.length) : ∃ b c, B.vw = .slice (some ⟨b, 0, none⟩) K.work.length c ∧ ∀ w, w < K.work.length → W.cell? ⟨b, w, none⟩ = some (.slice (B.ws.getD w (none, 0)).1 (K.own w).length (B.ws.getD w (none, 0)).2) := by
 obtain ⟨b, c, e, _, _, _, _⟩ := own_block h.work hn
 obtain ⟨p, c', e', hr⟩ := own_shape h.work
 rw [e] at e'
 cases e'
 refine ⟨b, c, e, fun w hw => ?_⟩
 have hl : (List.zipWith wkV K.work B.ws).length = K.work.length := by simp [h.wsl]
 have := hr.cell w (by omega)
 rw [Nat.zero_add] at this
 rw [this, List.getElem_zipWith]
 have hw2 : w < B.ws.length := by rw [h.wsl]; exact hw
 simp [wkV, Wk.own, List.getD_eq_getElem?_getD, hw, hw2]
theorem TabIs.atAt (h : TabIs W base t K S B) (hn : 0 < K.work.length) : ∃ b c, B.va = .slice (some ⟨b, 0, none⟩) K.work.length c ∧ ∀ w, w < K.work.length → W.cell? ⟨b, w, none⟩ = some (.int .i64 (S.next.getD w 0 : Nat)) := by
 have hown := h.ats
 rw [h.nxl] at hown
 obtain ⟨b, c, e, _, _, _, _⟩ := own_block hown hn
 obtain ⟨p, c', e', hr⟩ := own_shape hown
 rw [e] at e'
 cases e'
 refine ⟨b, c, e, fun w hw => ?_⟩
 have hw2 : w < S.next.length := by rw [h.nxl]; exact hw
 have := hr.cell w (by simpa using hw2)
 rw [Nat.zero_add] at this
 rw [this]
 simp [natV, List.getD_eq_getElem?_getD, hw2]
end
end Go.Proofs.YtabkmdhkfbcldaaGreat
namespace Go.Proofs.YtabkmdhkfbcldaaGreat
open Go.RowKit
theorem quiet_sym {P : Program} {f : FuncId} {args : Array Value} {w : World} {n : Nat} {v : Value} (h : Calls P f args (w.drewN n) fun e w' => e = .returned v ∧ w.drewN n = w') : Calls P f args (w.drewN n) fun e w'' => e = .returned v ∧ ∃ m, w'' = w.drewN m :=
 h.mono fun _ _ ⟨h1, h2⟩ => ⟨h1, n, h2.symm⟩
variable {W : World} {base t : Nat} {K : Wk} {S : Sh} {B : TB}
set_option maxRecDepth 20000 in
theorem workers_any (h : TabIs W base t K S B) : Calls Tryz.prog 8 #[.pointer (some ⟨t, 0, none⟩)] W fun e w' => e = .returned (.int .i64 (K.work.length : Nat)) ∧ W = w' := by
 obtain ⟨c0, c1, c2, c3, c4, c5, c6, c7, c8⟩ := tab_cells h.head
 obtain ⟨p, c, hv, -⟩ := own_shape h.work
 rw [hv] at c2
 clear hv h
 generalize K.work.length = n at *
 go_enter Tryz.func8, Tryz.ntmps8
 go_wp2
 go_ret
 exact ⟨rfl, rfl⟩
def Sh.doneI (S : Sh) (K : Wk) (w : Int) : Bool := decide (w < 0) || decide ((K.work.length : Int) ≤ w) || S.doneN K w.toNat
set_option maxRecDepth 20000 in
theorem done_any (h : TabIs W base t K S B) (w : Int) : Calls Tryz.prog 17 #[.pointer (some ⟨t, 0, none⟩), .int .i64 w] W fun e w' => e = .returned (.bool (S.doneI K w)) ∧ ∃ q, w' = W.drewN q := by
 have HW := hid (fun q => workers_any (h.below (below_drewN (Below.refl _ _) q)))
 by_cases h0 : w < 0
 ·have hv : S.doneI K w = true := by unfold Sh.doneI; simp [h0]
  rw [hv]
  clear hv h
  go_enter Tryz.func17, Tryz.ntmps17
  go_upto_region 1 with (fail)
  go_quiet ((go_at_call 8; exact quiet_sym (HW.out _)))
  go_wp2_with fail
  go_ret
  exact ⟨rfl, _, rfl⟩
 ·by_cases h1 : (K.work.length : Int) ≤ w
  ·have hv : S.doneI K w = true := by unfold Sh.doneI; simp [h1]
   rw [hv]
   clear hv h
   generalize K.work.length = n at *
   go_enter Tryz.func17, Tryz.ntmps17
   go_upto_region 1 with (fail)
   go_quiet ((go_at_call 8; exact quiet_sym (HW.out _)))
   go_wp2_with fail
   go_ret
   exact ⟨rfl, _, rfl⟩
  ·obtain ⟨k, rfl⟩ : ∃ k : Nat, w = k := ⟨w.toNat, by omega⟩
   have hk : k < K.work.length := by omega
   have HV : Hid (S.doneI K (k : Int) = decide (S.next.getD k 0 = (K.own k).length)) := by
    unfold Hid Sh.doneI Sh.doneN
    rw [Int.toNat_natCast]
    have a1 : decide ((k : Int) < 0) = false := decide_eq_false (by omega)
    have a2 : decide ((K.work.length : Int) ≤ k) = false := decide_eq_false (by omega)
    have a3 : decide (K.work.length ≤ k) = false := decide_eq_false (by omega)
    rw [a1, a2, a3]; rfl
   obtain ⟨c0, c1, c2, c3, c4, c5, c6, c7, c8⟩ := tab_cells h.head
   obtain ⟨b, c, hv, hw⟩ := h.workAt (by omega)
   obtain ⟨b2, c', hv2, hw2⟩ := h.atAt (by omega)
   have d0 := hw k hk
   have d1 := hw2 k hk
   rw [hv] at c2
   rw [hv2] at c3
   rw [HV.out]
   clear hv hv2 hw hw2 h HV
   generalize K.work.length = n at *
   generalize S.next.getD k 0 = x at *
   generalize (K.own k).length = y at *
   generalize (B.ws.getD k (none, 0)).1 = q1 at *
   generalize (B.ws.getD k (none, 0)).2 = q2 at *
   have hkn : ¬ n ≤ k := by omega
   go_enter Tryz.func17, Tryz.ntmps17
   go_upto_region 1 with (fail)
   go_quiet ((go_at_call 8; exact quiet_sym (HW.out _)))
   go_wp2_with fail
   go_ret
   exact ⟨ret_bool (by rw [Bool.eq_iff_iff]; simp; omega), _, rfl⟩
end Go.Proofs.YtabkmdhkfbcldaaGreat
namespace Go.Proofs.YtabkmdhkfbcldaaGreat
open Go.RowKit
variable {W : World} {base t : Nat} {K : Wk} {S : Sh} {B : TB}
theorem ak_at {w : World} {b o : Nat} {ys : List Ak} (h : Row w (some ⟨b, o, none⟩) (ys.flatMap Ak.cells)) (k : Nat) (hk : k < ys.length) :
  w.cell? ⟨b, o + k * 3, none⟩ = some (.int .i64 (ys.getD k ak0).kind) ∧ w.cell? ⟨b, o + k * 3 + 1, none⟩ = some (.string (ys.getD k ak0).key) ∧ w.cell? ⟨b, o + k * 3 + 2, none⟩ = some (.int .i64 (ys.getD k ak0).value) := by
 have e : ys.getD k ak0 = ys[k] := by simp [List.getD_eq_getElem?_getD, hk]
 rw [e]
 have each : ∀ j (hj : j < 3), w.cell? ⟨b, o + k * 3 + j, none⟩ = (ys[k]).cells[j]? := fun j hj => by
  have hlen := flat_len Ak.cells 3 (fun _ => rfl) ys
  have hlt : 3 * k + j < (ys.flatMap Ak.cells).length := by rw [hlen]; omega
  rw [show o + k * 3 + j = o + (3 * k + j) by omega, h.cell (3 * k + j) hlt, ← List.getElem?_eq_getElem hlt]
  exact flat_get Ak.cells 3 (fun _ => rfl) ys k hk j hj
 exact ⟨each 0 (by omega), each 1 (by omega), each 2 (by omega)⟩
theorem KInt : KeyOk Tryz.prog 3 (Value.int .i64) := keyOk_int Tryz.underlying3
theorem KStr : KeyOk Tryz.prog 9 Value.string := keyOk_string Tryz.underlying9
set_option maxRecDepth 20000 in
theorem ask_any (h : TabIs W base t K S B) (k : Nat) (hk : k < K.work.length) (hn : S.next.getD k 0 < (K.own k).length) :
  Calls Tryz.prog 25 #[.pointer (some ⟨t, 0, none⟩), .int .i64 (k : Nat)] W fun e w' => e = .returned (.agg #[.int .i64 (S.ask K k).kind, .string (S.ask K k).key, .int .i64 (S.ask K k).value]) ∧ Below W.heap.size W w' := by
 obtain ⟨c0, c1, c2, c3, c4, c5, c6, c7, c8⟩ := tab_cells h.head
 obtain ⟨b, c, hv, hw⟩ := h.workAt (by omega)
 obtain ⟨b2, c', hv2, hw2⟩ := h.atAt (by omega)
 obtain ⟨qa, ca, hqa, hr⟩ := own_shape (h.asks k hk)
 cases hqa
 have d0 := hw k hk
 have d1 := hw2 k hk
 generalize B.ws.getD k (none, 0) = q at *
 obtain ⟨q1, q2⟩ := q
 dsimp only at hr d0
 obtain ⟨bl, ol, rfl, hbl, -⟩ := hr.at (by have := flat_len Ak.cells 3 (fun _ => rfl) (K.own k); omega)
 obtain ⟨e0, e1, e2⟩ := ak_at hr _ hn
 rw [hv] at c2
 rw [hv2] at c3
 have hlb : b < W.heap.size := by obtain ⟨b', c'', e', _, hl, _⟩ := own_block h.work (by omega); rw [hv] at e'; cases e'; exact hl
 have hlb2 : b2 < W.heap.size := by have ho := h.ats; rw [h.nxl] at ho; obtain ⟨b', c'', e', _, hl, _⟩ := own_block ho (by omega); rw [hv2] at e'; cases e'; exact hl
 have hlt := (Array.getElem?_eq_some_iff.1 h.head).1
 unfold Sh.ask
 clear hv hv2 hw hw2 h hr
 generalize S.next.getD k 0 = x at *
 generalize hy : (K.own k).length = y at *
 generalize (K.own k).getD x ak0 = ak at *
 clear hy
 generalize K.work.length = n at *
 go_enter Tryz.func25, Tryz.ntmps25
 have g2 : ∀ w', Below W.heap.size W w' → w'.cell? ⟨t, 2, none⟩ = some (.slice (some ⟨b, 0, none⟩) n c) := fun w' hb => (hb.cell (p := ⟨t, 2, none⟩) hlt).trans c2
 have g3 : ∀ w', Below W.heap.size W w' → w'.cell? ⟨t, 3, none⟩ = some (.slice (some ⟨b2, 0, none⟩) n c') := fun w' hb => (hb.cell (p := ⟨t, 3, none⟩) hlt).trans c3
 have f0 : ∀ w', Below W.heap.size W w' → w'.cell? ⟨b, k, none⟩ = some (.slice (some ⟨bl, ol, none⟩) y q2) := fun w' hb => (hb.cell (p := ⟨b, k, none⟩) hlb).trans d0
 have f1 : ∀ w', Below W.heap.size W w' → w'.cell? ⟨b2, k, none⟩ = some (.int .i64 (x : Nat)) := fun w' hb => (hb.cell (p := ⟨b2, k, none⟩) hlb2).trans d1
 have h0 : ∀ w', Below W.heap.size W w' → w'.cell? ⟨bl, ol + x * 3, none⟩ = some (.int .i64 ak.kind) := fun w' hb => (hb.cell (p := ⟨bl, ol + x * 3, none⟩) hbl).trans e0
 have h1 : ∀ w', Below W.heap.size W w' → w'.cell? ⟨bl, ol + x * 3 + 1, none⟩ = some (.string ak.key) := fun w' hb => (hb.cell (p := ⟨bl, ol + x * 3 + 1, none⟩) hbl).trans e1
 have h2 : ∀ w', Below W.heap.size W w' → w'.cell? ⟨bl, ol + x * 3 + 2, none⟩ = some (.int .i64 ak.value) := fun w' hb => (hb.cell (p := ⟨bl, ol + x * 3 + 2, none⟩) hbl).trans e2
 clear c0 c1 c2 c3 c4 c5 c6 c7 c8 d0 d1 e0 e1 e2
 go_upto_region 1 with (fail)
 go_region_held3 (fun w' => Below W.heap.size W w') (first | exact ((Below.refl _ _).alloc (Nat.le_refl _) _).drew | assumption) (fail)
 go_wp2_with fail
 exact bodyPost_ret (v := .agg #[.int .i64 ak.kind, .string ak.key, .int .i64 ak.value]) (by simp [results, Tryz.results25, go_sem]) rfl ⟨rfl, ((Below.refl _ _).alloc (Nat.le_refl _) _).drew⟩
set_option maxRecDepth 20000 in
theorem next_any (h : TabIs W base t K S B) (k : Nat) : Calls Tryz.prog 40 #[.pointer (some ⟨t, 0, none⟩), .int .i64 (k : Nat)] W fun e w' => e = .returned (.int .i64 ((S.hand k).at_ : Nat)) ∧ W = w' := by
 obtain ⟨c0, c1, c2, c3, c4, c5, c6, c7, c8⟩ := tab_cells h.head
 have hz : ∀ w1 : World, (zeroValue 68).run Tryz.prog w1 = .ok (.pointer none) w1 := fun w1 => by kernel_rfl
 have HZ := hid hz
 have HM := hid h.hands
 cases h0 : B.pr k with
 | false =>
  have HL := hid (h.free k h0).1
  rw [(h.free k h0).2]
  clear h h0 hz
  go_enter Tryz.func40, Tryz.ntmps40
  go_wp2_with ((with_reducible show wpList _ _ _ (⟨some 11, _, _, _, _, _⟩ :: _) _ _); refine wpList_maplook KInt Tryz.underlying53 rfl (.tmp 9) (.tmp 10) false rfl (.pointer none) (HZ.out _) B.bh B.hm rfl HM.out (k : Int) rfl ?_; rw [HL.out])
  go_ret
  exact ⟨rfl, rfl⟩
 | true =>
  obtain ⟨hl, hb⟩ := h.hand k h0
  have HL := hid hl
  have d1 := cell_of_row _ _ 1 _ _ _ hb
  have d1' : W.cell? ⟨B.hb k, 1, none⟩ = some (.int .i64 ((S.hand k).at_ : Nat)) := d1
  generalize (S.hand k).at_ = x at *
  clear h h0 hz hl hb d1
  go_enter Tryz.func40, Tryz.ntmps40
  go_wp2_with ((with_reducible show wpList _ _ _ (⟨some 11, _, _, _, _, _⟩ :: _) _ _); refine wpList_maplook KInt Tryz.underlying53 rfl (.tmp 9) (.tmp 10) false rfl (.pointer none) (HZ.out _) B.bh B.hm rfl HM.out (k : Int) rfl ?_; rw [HL.out])
  go_ret
  exact ⟨rfl, rfl⟩
set_option maxRecDepth 20000 in
theorem get_any (h : TabIs W base t K S B) (key : ByteArray) : Calls Tryz.prog 15 #[.pointer (some ⟨t, 0, none⟩), .string key] W fun e w' => e = .returned (.tuple #[.int .i64 ((S.get key).getD 0), .bool (S.get key).isSome]) ∧ W = w' := by
 obtain ⟨c0, c1, c2, c3, c4, c5, c6, c7, c8⟩ := tab_cells h.head
 have HZ := hid (fun w1 : World => (show (zeroValue 2).run Tryz.prog w1 = .ok (.int .i64 0) w1 by kernel_rfl))
 have HM := hid h.vals
 have HL := hid (h.valIs key)
 generalize S.get key = o at *
 clear h
 cases o with
 | none =>
  go_enter Tryz.func15, Tryz.ntmps15
  go_wp2_with (refine wpList_maplook KStr Tryz.underlying54 rfl _ _ true rfl (.int .i64 0) (HZ.out _) B.bv B.vm rfl HM.out key rfl ?_; rw [HL.out])
  go_ret2
  exact ⟨rfl, rfl⟩
 | some v =>
  go_enter Tryz.func15, Tryz.ntmps15
  go_wp2_with (refine wpList_maplook KStr Tryz.underlying54 rfl _ _ true rfl (.int .i64 0) (HZ.out _) B.bv B.vm rfl HM.out key rfl ?_; rw [HL.out])
  go_ret2
  exact ⟨rfl, rfl⟩
end Go.Proofs.YtabkmdhkfbcldaaGreat
namespace Go.Proofs.YtabkmdhkfbcldaaGreat
open Go.RowKit
structure WkOk (K : Wk) : Prop where
 sh : 1 ≤ K.shards ∧ K.shards ≤ 256
 wn : 1 ≤ K.work.length ∧ K.work.length ≤ 64
 ofs : ∀ k, (K.of k : Int) = ofF k (K.shards : Nat)
 keys : ∀ w, ∀ a ∈ K.own w, a.key.size ≤ 1000000
variable {W : World} {base t : Nat} {K : Wk} {S : Sh} {B : TB}
theorem ask_mem {k : Nat} (hn : S.next.getD k 0 < (K.own k).length) : S.ask K k ∈ K.own k := by
 unfold Sh.ask
 rw [List.getD_eq_getElem?_getD, List.getElem?_eq_getElem hn]
 exact List.getElem_mem hn
set_option maxRecDepth 20000 in
theorem tlock_any (h : TabIs W base t K S B) (HK : WkOk K) (k : Nat) (hk : k < K.work.length) (hn : S.next.getD k 0 < (K.own k).length) (kind : Int) :
  Calls Tryz.prog 27 #[.pointer (some ⟨t, 0, none⟩), .int .i64 (k : Nat), .int .i64 kind] W fun e w' => e = .returned (Ac.val ⟨kind, (K.of (S.ask K k).key : Nat), 0, 0⟩) ∧ Below W.heap.size W w' := by
 have HA := hid (fun (w1 : World) (hb : Below W.heap.size W w1) => ask_any (h.below hb) k hk hn)
 have HO := hid (fun (w1 : World) => of_any (S.ask K k).key (K.shards : Nat) w1 (Nat.le_trans (HK.keys k _ (ask_mem hn)) (by omega)) (by have := HK.sh; omega))
 have hlt := (Array.getElem?_eq_some_iff.1 h.head).1
 obtain ⟨c0, c1, c2, c3, c4, c5, c6, c7, c8⟩ := tab_cells h.head
 have g1 : ∀ w', Below W.heap.size W w' → w'.cell? ⟨t, 1, none⟩ = some (.int .i64 (K.shards : Nat)) := fun w' hb => (hb.cell (p := ⟨t, 1, none⟩) hlt).trans c1
 rw [← HK.ofs] at HO
 generalize K.of (S.ask K k).key = cl at *
 generalize S.ask K k = ak at *
 generalize K.shards = sh at *
 have hfd : ∀ w : World, (Instr.field 46 (.agg #[.int .i64 ak.kind, .string ak.key, .int .i64 ak.value]) 1).run Tryz.prog w = .ok (.string ak.key) w := fun _ => by kernel_rfl
 clear c0 c1 c2 c3 c4 c5 c6 c7 c8 h hn hk HK
 go_enter Tryz.func27, Tryz.ntmps27
 go_upto_region 1 with (fail)
 obtain ⟨W2, hW2⟩ : ∃ W2, W2 = W.alloc (.cells #[.int .i64 0, .int .i64 0, .int .i64 0, .int .i64 0] 75) := ⟨_, rfl⟩
 rw [← hW2]
 have HB2 : Hid (Below W.heap.size W W2) := by rw [hW2]; exact (Below.refl _ _).alloc (Nat.le_refl _) _
 have HC2 : Hid (W2.heap[W.heap.size]? = some (.cells #[.int .i64 0, .int .i64 0, .int .i64 0, .int .i64 0] 75 (0, 0))) := by rw [hW2]; exact heap_alloc_new W _
 have HZ2 : Hid (W.heap.size < W2.heap.size) := by rw [hW2]; simp [Hid]
 clear hW2
 go_region_held3 (fun w' => Below W.heap.size W w') (first | (with_reducible assumption) | (with_reducible exact HB2.out) | (with_reducible exact HB2.out.drew) | (with_reducible ((repeat (refine Below.setCell ?_ (by simp) _)); assumption))) (first
  | (go_at_call 25; (with_reducible refine (HA.out _ (by first | exact HB2.out.drew | exact HB2.out)).mono ?_); rintro e w3 ⟨rfl, hb3⟩; have hq3 : Below W.heap.size W w3 := below_more hb3 (by first | exact HB2.out.drew | exact HB2.out) (Nat.le_refl _); have hblk : w3.heap[W.heap.size]? = some (.cells #[.int .i64 0, .int .i64 0, .int .i64 0, .int .i64 0] 75 (0, 0)) := (hb3.block W.heap.size HZ2.out).trans HC2.out; have z0 := cell_of_row _ _ 0 _ _ _ hblk; have z1 := cell_of_row _ _ 1 _ _ _ hblk; have z2 := cell_of_row _ _ 2 _ _ _ hblk; have z3 := cell_of_row _ _ 3 _ _ _ hblk; have f0 := frozen_of_row _ _ 0 _ _ hblk; have f1 := frozen_of_row _ _ 1 _ _ hblk; have f2 := frozen_of_row _ _ 2 _ _ hblk; have f3 := frozen_of_row _ _ 3 _ _ hblk; clear hb3 hblk)
  | (go_at_call 43; with_reducible refine (HO.out _).mono ?_; rintro e w' ⟨rfl, rfl⟩))
 go_wp2_with fail
 exact bodyPost_ret (v := Ac.val ⟨kind, (cl : Nat), 0, 0⟩) (by simp [results, Tryz.results27, go_sem, Ac.val, z0, z1, z2, z3]) rfl ⟨rfl, by
  repeat (refine Below.setCell ?_ (by simp) _)
  assumption⟩
end Go.Proofs.YtabkmdhkfbcldaaGreat
