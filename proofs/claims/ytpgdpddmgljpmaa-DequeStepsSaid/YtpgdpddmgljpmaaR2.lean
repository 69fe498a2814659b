/-
  The document's deque in memory.
-/
import Derived.Test.YtpgdpddmgljpmaaR1
import Derived.Test.YtpgdpddmgljpmaaD16
namespace Go.Proofs.Ytpgdpddmgljpmaa
open Go.RowKit

theorem typ_ne {W : World} {a b : Nat} {cs ds : Array Value} {e f : TypeId} (h1 : W.heap[a]? = some (.cells cs e (0, 0))) (h2 : W.heap[b]? = some (.cells ds f (0, 0))) (hne : e ≠ f) : a ≠ b := fun h => by
  subst h; rw [h1] at h2; injection h2 with h2; injection h2 with _ h; exact hne h
theorem own_ne {W : World} {base b size n : Nat} {ds : Array Value} {e f : TypeId} {v : Value} {xs : List Value} (h1 : W.ownsRow base e size v n xs) (h2 : W.heap[b]? = some (.cells ds f (0, 0))) (hne : e ≠ f) : ∀ g, v.ownBlock = some g → g ≠ b := fun g hg => by
  obtain ⟨cur, hc⟩ := own_typeA h1 g hg
  exact typ_ne hc h2 hne
theorem flat_at {α : Type} (f : α → List Value) (k : Nat) (hk : ∀ x, (f x).length = k) : ∀ (l : List α) (i : Nat) (hi : i < l.length) (j : Nat), j < k → (l.flatMap f)[i * k + j]? = (f l[i])[j]?
  | [], i, hi, _, _ => by simp at hi
  | a :: l, 0, _, j, hj => by
    rw [List.flatMap_cons, Nat.zero_mul, Nat.zero_add, List.getElem?_append_left (by rw [hk]; exact hj)]; rfl
  | a :: l, i + 1, hi, j, hj => by
    rw [List.flatMap_cons, List.getElem?_append_right (by rw [hk, Nat.succ_mul]; omega), hk, show (i + 1) * k + j - k = i * k + j by rw [Nat.succ_mul]; omega]
    exact flat_at f k hk l i (by simpa using hi) j hj
theorem rflat_len {α : Type} (f : α → List Value) (k : Nat) (hk : ∀ x, (f x).length = k) : ∀ l : List α, (l.flatMap f).length = l.length * k
  | [] => by simp
  | a :: l => by rw [List.flatMap_cons, List.length_append, hk, rflat_len f k hk l, List.length_cons, Nat.succ_mul]; omega
theorem flat_set {α : Type} (f : α → List Value) (k : Nat) (hk : ∀ x, (f x).length = k) : ∀ (l : List α) (i : Nat) (hi : i < l.length) (j : Nat) (v : Value) (y : α), j < k → f y = (f l[i]).set j v → (l.flatMap f).set (i * k + j) v = (l.set i y).flatMap f
  | [], i, hi, _, _, _, _, _ => by simp at hi
  | a :: l, 0, _, j, v, y, hj, hy => by
    rw [List.flatMap_cons, Nat.zero_mul, Nat.zero_add, List.set_append_left _ _ (by rw [hk]; exact hj), List.set_cons_zero, List.flatMap_cons, hy]; rfl
  | a :: l, i + 1, hi, j, v, y, hj, hy => by
    rw [List.flatMap_cons, List.set_append_right _ _ (by rw [hk, Nat.succ_mul]; omega), hk, show (i + 1) * k + j - k = i * k + j by rw [Nat.succ_mul]; omega, List.set_cons_succ, List.flatMap_cons]
    congr 1
    exact flat_set f k hk l i (by simpa using hi) j v y hj hy

def hcells (x : Hd) : List Value := [i64 x.at_, i64 x.t, i64 x.b, .bool x.won, i64 x.v]
theorem hcells_len (x : Hd) : (hcells x).length = 5 := rfl
structure RC where
  n0 : Nat
  base : Nat
  r : Nat
  Q : Nat
  HB : Nat
  AB : Nat
  qc : Nat
  oc : Nat
  op : Option Addr
  ov : Nat → Value
/-- A row of operations: the caller's own, below n, or in a block of operations. -/
structure RWork (W : World) (n m : Nat) (v : Value) (ops : List (Int × Int)) : Prop where
  ex : ∃ p c, v = .slice p ops.length c ∧ Row W p (opCells ops) ∧ (∀ a, p = some a → ops ≠ [] → a.block < n ∨ (m ≤ a.block ∧ ∃ cur fz, W.heap[a.block]? = some (.cells cur 27 fz)))
theorem RWork.blk {W W' : World} {n m : Nat} {v : Value} {ops : List (Int × Int)} (h : RWork W n m v ops) (hk : ops ≠ [] → ∀ a m c, v = .slice (some a) m c → W'.heap[a.block]? = W.heap[a.block]?) : RWork W' n m v ops := by
  obtain ⟨p, c, rfl, hr, ht⟩ := h.ex
  refine ⟨p, c, rfl, ?_, fun a ha hne => ?_⟩
  · intro hne
    obtain ⟨b, f, rfl, hcell⟩ := hr hne
    refine ⟨b, f, rfl, fun i hi => ?_⟩
    rw [← hcell i hi]
    exact World.cell?_of_block (a := ⟨b, f + i, none⟩) (hk (by rintro rfl; exact hne rfl) ⟨b, f, none⟩ _ _ rfl)
  · subst ha
    rcases ht a rfl hne with h | ⟨hm, cur, fz, hc⟩
    · exact .inl h
    · exact .inr ⟨hm, cur, fz, (hk hne a _ _ rfl).trans hc⟩
theorem RWork.only {W W' : World} {n m : Nat} {v : Value} {ops : List (Int × Int)} {B : List (Option Nat)} (h : RWork W n m v ops) (hn : n ≤ W.heap.size) (ho : Only B W W') (hB : ∀ k, k < W.heap.size → some k ∈ B → n ≤ k ∧ ∀ cur fz, W.heap[k]? ≠ some (.cells cur 27 fz)) : RWork W' n m v ops := by
  refine h.blk (fun hne a l c e => ?_)
  obtain ⟨p, c', e', _, ht⟩ := h.ex
  rw [e] at e'; cases e'
  rcases ht a rfl hne with h | ⟨_, cur, fz, hc⟩
  · exact ho.block _ (by omega) (fun hm => by have := (hB _ (by omega) hm).1; omega)
  · exact ho.block _ (Array.getElem?_eq_some_iff.1 hc).1 (fun hm => (hB _ (Array.getElem?_eq_some_iff.1 hc).1 hm).2 cur fz hc)
/-- A row of operations lies where it lay, if its block does. -/
theorem rwork_ne {W : World} {n m : Nat} {v : Value} {ops : List (Int × Int)} {b : Nat} {ds : Array Value} {f : TypeId} (h : RWork W n m v ops) (hb : W.heap[b]? = some (.cells ds f (0, 0))) (hn : n ≤ b) (hne : f ≠ 27) (a : Addr) (u : Value) (ha : a.block = b) : RWork (W.setCell a u) n m v ops :=
  h.only (by have := (Array.getElem?_eq_some_iff.1 hb).1; omega) (Only.grown (grown_set W a u)) (fun k hk hm => by
    simp only [List.mem_singleton, Option.some.injEq] at hm
    rw [hm, ha]
    refine ⟨hn, fun cur fz hc => ?_⟩
    rw [hb] at hc; cases hc; exact hne rfl)
structure RefIs (W : World) (c : RC) (av : Nat → Value) (R : Dq) : Prop where
  rr : W.heap[c.r]? = some (.cells #[i64 R.pl.length, i64 R.top, i64 R.bottom, .slice (some ⟨c.Q, 0, none⟩) R.pl.length c.qc, .slice c.op R.hs.length c.oc, .slice (some ⟨c.HB, 0, none⟩) R.hs.length R.hs.length, .slice (some ⟨c.AB, 0, none⟩) R.hs.length R.hs.length, i64 R.count] 78 (0, 0))
  qq : PAt W c.Q R.pl
  oo : W.ownsRow c.base 25 1 (.slice c.op R.hs.length c.oc) R.hs.length ((List.range R.hs.length).map c.ov)
  hh : W.heap[c.HB]? = some (.cells (R.hs.flatMap hcells).toArray 80 (0, 0))
  aa : W.heap[c.AB]? = some (.cells ((List.range R.hs.length).map av).toArray 37 (0, 0))
  an : ∀ i (h : i < R.hs.length), W.ownsRow c.base 40 2 (av i) R.hs[i].said.length (ansCells R.hs[i].said)
  ow : ∀ i (h : i < R.hs.length), RWork W c.n0 c.base (c.ov i) R.hs[i].ops
  ap : ∀ i j, i < R.hs.length → j < R.hs.length → i ≠ j → Apart (av i) (av j)
  bs : c.base ≤ W.heap.size
  br : c.base ≤ c.r
  bq : c.base ≤ c.Q
  bh : c.base ≤ c.HB
  ba : c.base ≤ c.AB
  nb : c.n0 ≤ c.base
variable {W W' : World} {c : RC} {av : Nat → Value} {R : Dq}
theorem RefIs.drewN (H : RefIs W c av R) (q : Nat) : RefIs (W.drewN q) c av R :=
  ⟨H.rr, H.qq, own_drewN H.oo q, H.hh, H.aa, fun i h => own_drewN (H.an i h) q, fun i h => ⟨(H.ow i h).ex⟩, H.ap, H.bs, H.br, H.bq, H.bh, H.ba, H.nb⟩
/-- A cell of the deque's own block is set. -/
theorem RefIs.setR (H : RefIs W c av R) (k : Nat) (v : Value) (R' : Dq) (hp : R'.pl = R.pl) (hh : R'.hs = R.hs)
    (hk : (#[i64 R.pl.length, i64 R.top, i64 R.bottom, .slice (some ⟨c.Q, 0, none⟩) R.pl.length c.qc, .slice c.op R.hs.length c.oc, .slice (some ⟨c.HB, 0, none⟩) R.hs.length R.hs.length, .slice (some ⟨c.AB, 0, none⟩) R.hs.length R.hs.length, i64 R.count] : Array Value).setIfInBounds k v = #[i64 R.pl.length, i64 R'.top, i64 R'.bottom, .slice (some ⟨c.Q, 0, none⟩) R.pl.length c.qc, .slice c.op R.hs.length c.oc, .slice (some ⟨c.HB, 0, none⟩) R.hs.length R.hs.length, .slice (some ⟨c.AB, 0, none⟩) R.hs.length R.hs.length, i64 R'.count]) :
    RefIs (W.setCell ⟨c.r, k, none⟩ v) c av R' := by
  have keep : ∀ b, b ≠ c.r → (W.setCell ⟨c.r, k, none⟩ v).heap[b]? = W.heap[b]? := fun b hb => Below.heap_setCell W _ v b hb
  obtain ⟨top', bottom', count', pl', hs'⟩ := R'
  dsimp only at hp hh hk ⊢
  subst hp hh
  refine ⟨?_, (keep _ (typ_ne H.qq H.rr (by decide))).trans H.qq, own_setO H.oo _ _ (own_ne H.oo H.rr (by decide)), (keep _ (typ_ne H.hh H.rr (by decide))).trans H.hh, (keep _ (typ_ne H.aa H.rr (by decide))).trans H.aa,
    fun i h => own_setO (H.an i h) _ _ (own_ne (H.an i h) H.rr (by decide)), fun i h => rwork_ne (H.ow i h) H.rr (Nat.le_trans H.nb H.br) (by decide) _ _ rfl, H.ap, by have := H.bs; simp; omega, H.br, H.bq, H.bh, H.ba, H.nb⟩
  refine (heap_setCell_same W c.r k _ _ v H.rr).trans ?_
  rw [hk]
theorem RefIs.setTop (H : RefIs W c av R) (n : Int) : RefIs (W.setCell ⟨c.r, 1, none⟩ (i64 n)) c av { R with top := n } := H.setR 1 _ _ rfl rfl rfl
theorem RefIs.setBottom (H : RefIs W c av R) (n : Int) : RefIs (W.setCell ⟨c.r, 2, none⟩ (i64 n)) c av { R with bottom := n } := H.setR 2 _ _ rfl rfl rfl
theorem RefIs.setCount (H : RefIs W c av R) (n : Int) : RefIs (W.setCell ⟨c.r, 7, none⟩ (i64 n)) c av { R with count := n } := H.setR 7 _ _ rfl rfl rfl
/-- A place is set. -/
theorem RefIs.setPl (H : RefIs W c av R) (k : Nat) (n : Int) : RefIs (W.setCell ⟨c.Q, k, none⟩ (i64 n)) c av { R with pl := R.pl.set k n } := by
  have keep : ∀ b, b ≠ c.Q → (W.setCell ⟨c.Q, k, none⟩ (i64 n)).heap[b]? = W.heap[b]? := fun b hb => Below.heap_setCell W _ _ b hb
  refine ⟨?_, PAt.set H.qq k n, own_setO H.oo _ _ (own_ne H.oo H.qq (by decide)), (keep _ (typ_ne H.hh H.qq (by decide))).trans H.hh, (keep _ (typ_ne H.aa H.qq (by decide))).trans H.aa,
    fun i h => own_setO (H.an i h) _ _ (own_ne (H.an i h) H.qq (by decide)), fun i h => rwork_ne (H.ow i h) H.qq (Nat.le_trans H.nb H.bq) (by decide) _ _ rfl, H.ap, by have := H.bs; simp; omega, H.br, H.bq, H.bh, H.ba, H.nb⟩
  dsimp only
  rw [List.length_set]
  exact (keep _ (typ_ne H.rr H.qq (by decide))).trans H.rr
/-- A cell of a hand is set. -/
theorem RefIs.setH (H : RefIs W c av R) (i : Nat) (hi : i < R.hs.length) (j : Nat) (hj : j < 5) (v : Value) (y : Hd) (hy : hcells y = (hcells R.hs[i]).set j v) (ho : y.ops = R.hs[i].ops) (hs : y.said = R.hs[i].said) :
    RefIs (W.setCell ⟨c.HB, i * 5 + j, none⟩ v) c av { R with hs := R.hs.set i y } := by
  have keep : ∀ b, b ≠ c.HB → (W.setCell ⟨c.HB, i * 5 + j, none⟩ v).heap[b]? = W.heap[b]? := fun b hb => Below.heap_setCell W _ _ b hb
  have hl : (R.hs.set i y).length = R.hs.length := List.length_set
  have hsd : ∀ k (h : k < R.hs.length), ((R.hs.set i y)[k]'(by rw [hl]; exact h)).said = R.hs[k].said := fun k h => by
    rw [List.getElem_set]; split
    · subst_vars; exact hs
    · rfl
  have hod : ∀ k (h : k < R.hs.length), ((R.hs.set i y)[k]'(by rw [hl]; exact h)).ops = R.hs[k].ops := fun k h => by
    rw [List.getElem_set]; split
    · subst_vars; exact ho
    · rfl
  refine ⟨?_, (keep _ (typ_ne H.qq H.hh (by decide))).trans H.qq, ?_, ?_, ?_, ?_, ?_, ?_, by have := H.bs; simp; omega, H.br, H.bq, H.bh, H.ba, H.nb⟩ <;> dsimp only
  · rw [hl]; exact (keep _ (typ_ne H.rr H.hh (by decide))).trans H.rr
  · rw [hl]; exact own_setO H.oo _ _ (own_ne H.oo H.hh (by decide))
  · refine (heap_setCell_same W c.HB _ _ _ v H.hh).trans ?_
    rw [← flat_set hcells 5 hcells_len R.hs i hi j v y hj hy]
    congr 2
    simp
  · rw [hl]; exact (keep _ (typ_ne H.aa H.hh (by decide))).trans H.aa
  · intro k hk
    rw [hl] at hk
    rw [hsd k hk]
    exact own_setO (H.an k hk) _ _ (own_ne (H.an k hk) H.hh (by decide))
  · intro k hk
    rw [hl] at hk
    rw [hod k hk]
    exact rwork_ne (H.ow k hk) H.hh (Nat.le_trans H.nb H.bh) (by decide) _ _ rfl
  · intro a b ha hb; rw [hl] at ha hb; exact H.ap a b ha hb
end Go.Proofs.Ytpgdpddmgljpmaa
