/-
  A memory as the walks have it, and what is made of it, in plain words.
-/
import Derived.Test.YthmockfeffikjaaCeR
import Derived.Test.YthmockfeffikjaaROne
import Derived.Test.YthmockfeffikjaaCopy
namespace Go.Proofs.Ythmockfeffikjaa
open Go.RowKit

structure Mem where
  cs : List Ce
  steps : Int
variable {W W' : World} {base d : Nat} {hd : Value → Int → Obj} {v : Value} {ys : List CeR} {S : Mem} {fp fp' : Nat → Prop}
/-- What an access comes to, not done yet: the cell, the answer, what is wrong. -/
def Mem.look (S : Mem) (wk : Int) (a : Ac) : Ce × Int × Int :=
  if a.cell < 0 ∨ (S.cs.length : Int) ≤ a.cell then (ce0, 0, 230) else oneP (S.cs.getD a.cell.toNat ce0) wk a
def Mem.step (S : Mem) (wk : Int) (a : Ac) : Mem :=
  if (S.look wk a).2.2 = 0 then ⟨S.cs.set a.cell.toNat (S.look wk a).1, IntKind.i64.wrap (S.steps + 1)⟩ else S
/-- What Do tells. -/
def Mem.tell (S : Mem) (wk : Int) (a : Ac) : Int × Int :=
  if (S.look wk a).2.2 = 0 then ((S.look wk a).2.1, 0) else (0, (S.look wk a).2.2)
theorem Mem.step_len (S : Mem) (wk : Int) (a : Ac) : (S.step wk a).cs.length = S.cs.length := by unfold Mem.step; split <;> simp

/-- All that is not in fp lies on. -/
structure Turn (fp : Nat → Prop) (w w' : World) : Prop where
  os : w'.os = w.os
  tape : w'.tape = w.tape
  output : w'.output = w.output
  size : w.heap.size ≤ w'.heap.size
  block : ∀ k, k < w.heap.size → ¬ fp k → w'.heap[k]? = w.heap[k]?
theorem Turn.of_below (h : Below W.heap.size W W') : Turn fp W W' := ⟨h.os, h.tape, h.output, h.size, fun k hk _ => h.block k hk⟩
theorem own_blk {w w' : World} {e : TypeId} {size n : Nat} {v : Value} {xs : List Value} (h : w.ownsRow base e size v n xs) (hk : ∀ g, v.ownBlock = some g → w'.heap[g]? = w.heap[g]?) : w'.ownsRow base e size v n xs := by
  refine ⟨h.1, ?_⟩
  rcases h.2 with hn' | ⟨g, cap, cur, rfl, hge, hg, rest⟩
  · exact .inl hn'
  · exact .inr ⟨g, cap, cur, rfl, hge, (hk g rfl).trans hg, rest⟩
theorem SlAt.blk {p : Option Addr} {c : Nat} {l : List Int} (h : SlAt W p c l) (hk : ∀ q, p = some q → W'.heap[q.block]? = W.heap[q.block]?) : SlAt W' p c l := by
  refine ⟨h.1, h.2.1, h.2.2.1, fun hne => ?_⟩
  obtain ⟨b, o, rfl, hc⟩ := h.2.2.2 hne
  exact ⟨b, o, rfl, fun i hi => by rw [← hc i hi]; exact World.cell?_of_block (a := ⟨b, o + i, none⟩) (hk ⟨b, o, none⟩ rfl)⟩

structure MemIs (W : World) (base d : Nat) (hd : Value → Int → Obj) (v : Value) (ys : List CeR) (S : Mem) (fp : Nat → Prop) : Prop where
  cs : S.cs = ys.map CeR.x
  ok : ∀ y ∈ ys, okP y.x = true
  head : W.heap[d]? = some (hd v S.steps)
  own : W.ownsRow base 30 7 v ys.length (ceRow ys)
  sl : ∀ y ∈ ys, SlAt W y.p y.c y.x.came
  fd : fp d
  fv : ∀ g, v.ownBlock = some g → fp g
  fs : ∀ y ∈ ys, ∀ q, y.p = some q → fp q.block
  nd : v.ownBlock ≠ some d
  ap : ∀ y ∈ ys, ∀ q, y.p = some q → q.block ≠ d ∧ v.ownBlock ≠ some q.block
  lt : ∀ k, fp k → k < W.heap.size
  bd : base ≤ d
theorem MemIs.kept (H : MemIs W base d hd v ys S fp) (hk : ∀ k, fp k → W'.heap[k]? = W.heap[k]?) (hs : W.heap.size ≤ W'.heap.size) : MemIs W' base d hd v ys S fp :=
  ⟨H.cs, H.ok, (hk d H.fd).trans H.head, own_blk H.own (fun g hg => hk g (H.fv g hg)), fun y hy => (H.sl y hy).blk (fun q hq => hk _ (H.fs y hy q hq)), H.fd, H.fv, H.fs, H.nd, H.ap, fun k h => Nat.lt_of_lt_of_le (H.lt k h) hs, H.bd⟩
theorem MemIs.below (H : MemIs W base d hd v ys S fp) (hb : Below W.heap.size W W') : MemIs W' base d hd v ys S fp := H.kept (fun k hk => hb.block k (H.lt k hk)) hb.size
def MMach (W : World) (base d : Nat) (hd : Value → Int → Obj) (S : Mem) (fp : Nat → Prop) : Prop := ∃ v ys, MemIs W base d hd v ys S fp
theorem MMach.kept (H : MMach W base d hd S fp) (hk : ∀ k, fp k → W'.heap[k]? = W.heap[k]?) (hs : W.heap.size ≤ W'.heap.size) : MMach W' base d hd S fp := by
  obtain ⟨v, ys, h⟩ := H; exact ⟨v, ys, h.kept hk hs⟩
theorem MMach.below (H : MMach W base d hd S fp) (hb : Below W.heap.size W W') : MMach W' base d hd S fp := by
  obtain ⟨v, ys, h⟩ := H; exact ⟨v, ys, h.below hb⟩
theorem MemIs.len (H : MemIs W base d hd v ys S fp) : S.cs.length = ys.length := by rw [H.cs, List.length_map]
theorem MemIs.look (H : MemIs W base d hd v ys S fp) {wk : Int} {a : Ac} {k : Nat} (hk : k < ys.length) (e : a.cell = k) : S.look wk a = oneP ys[k].x wk a := by
  unfold Mem.look
  rw [if_neg (by rw [H.len]; omega), e, Int.toNat_natCast]
  congr 1
  rw [H.cs, List.getD_eq_getElem?_getD, List.getElem?_map, List.getElem?_eq_getElem hk]; rfl
theorem MemIs.look_no (H : MemIs W base d hd v ys S fp) {wk : Int} {a : Ac} (e : a.cell < 0 ∨ (ys.length : Int) ≤ a.cell) : S.look wk a = (ce0, 0, 230) := by
  unfold Mem.look
  rw [if_pos (by rw [H.len]; exact e)]

/-- The seven cells of element k, stored anew. -/
theorem ceRow_set (ys : List CeR) (k : Nat) (hk : k < ys.length) (y : CeR) :
    (((((((ceRow ys).set (k * 7) (i64 y.x.kind)).set (k * 7 + 1) (i64 y.x.n)).set (k * 7 + 2) (i64 y.x.owner)).set (k * 7 + 3) (i64 y.x.need)).set (k * 7 + 4) (.slice y.p y.x.came.length y.c)).set (k * 7 + 5) (i64 y.x.turns)).set (k * 7 + 6) (.bool y.x.there) = ceRow (ys.set k y) := by
  induction ys generalizing k with
  | nil => cases hk
  | cons a l ih =>
    cases k with
    | zero => simp [ceRow, CeR.cells]
    | succ k =>
      have := ih k (by simpa using hk)
      simp only [ceRow, List.flatMap_cons, List.set_cons_succ] at this ⊢
      rw [← this]
      have e : ∀ j, (k + 1) * 7 + j = (CeR.cells a).length + (k * 7 + j) := fun j => by show _ = 7 + _; omega
      have e0 : (k + 1) * 7 = (CeR.cells a).length + k * 7 := e 0
      rw [e0, show (CeR.cells a).length + k * 7 + 1 = (CeR.cells a).length + (k * 7 + 1) from by omega, show (CeR.cells a).length + k * 7 + 2 = (CeR.cells a).length + (k * 7 + 2) from by omega, show (CeR.cells a).length + k * 7 + 3 = (CeR.cells a).length + (k * 7 + 3) from by omega, show (CeR.cells a).length + k * 7 + 4 = (CeR.cells a).length + (k * 7 + 4) from by omega, show (CeR.cells a).length + k * 7 + 5 = (CeR.cells a).length + (k * 7 + 5) from by omega, show (CeR.cells a).length + k * 7 + 6 = (CeR.cells a).length + (k * 7 + 6) from by omega]
      simp only [List.set_append_right _ _ (Nat.le_add_right _ _), Nat.add_sub_cancel_left]
end Go.Proofs.Ythmockfeffikjaa
