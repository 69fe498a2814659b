/-
  The walk of CellsMemory.
-/
import Derived.Test.YtfpgdaefdpjcmaaMem13
import Derived.Test.YtfpgdaefdpjcmaaMem14
import Derived.Test.YtfpgdaefdpjcmaaMem16
import Derived.Test.YtfpgdaefdpjcmaaLock
namespace Go.Proofs.Ytfpgdaefdpjcmaa
open Go.RowKit
variable {wk : Int} {a : Ac}
variable {W w w' : World} {base base' d d2 : Nat} {hd : Value → Int → Obj} {v : Value} {ys : List CeR} {S R : Mem} {fp rp : Nat → Prop}

theorem MMach.lower (H : MMach W base d hd S fp) (h : base' ≤ base) : MMach W base' d hd S fp := by
  obtain ⟨v, ys, H⟩ := H
  exact ⟨v, ys, H.cs, H.ok, H.head, own_lower H.own h, H.sl, H.fd, H.fv, H.fs, H.nd, H.ap, H.lt, Nat.le_trans h H.bd⟩
theorem MMach.lt (H : MMach W base d hd S fp) : ∀ k, fp k → k < W.heap.size := by obtain ⟨v, ys, H⟩ := H; exact H.lt
theorem MMach.bs (H : MMach W base d hd S fp) : base ≤ W.heap.size := by obtain ⟨v, ys, H⟩ := H; exact Nat.le_trans H.bd (Nat.le_of_lt (H.lt _ H.fd))
/-- Two memories side by side. -/
structure MJ (w : World) (d : Nat) (S : Mem) (fp : Nat → Prop) (d2 : Nat) (R : Mem) (rp : Nat → Prop) (wr : World) : Prop where
  m : MMach wr w.heap.size d hdM S fp
  r : MMach wr w.heap.size d2 hdR R rp
  dis : ∀ k, fp k → ¬ rp k
  b : Below w.heap.size w wr
theorem MJ.below (h : MJ w d S fp d2 R rp W) (hb : Below W.heap.size W w') : MJ w d S fp d2 R rp w' := ⟨h.m.below hb, h.r.below hb, h.dis, h.b.trans (hb.mono h.b.size)⟩
theorem MJ.doM (h : MJ w d S fp d2 R rp W) {fp' : Nat → Prop} (hm : MMach w' w.heap.size d hdM (S.step wk a) fp') (hf : ∀ k, fp' k → fp k ∨ W.heap.size ≤ k) (ht : Turn fp W w') (hb : Below w.heap.size W w') : MJ w d (S.step wk a) fp' d2 R rp w' :=
  ⟨hm, h.r.kept (fun k hk => ht.block k (h.r.lt k hk) (fun h1 => h.dis k h1 hk)) ht.size, fun k hk hk2 => (hf k hk).elim (fun h1 => h.dis k h1 hk2) (fun h1 => by have := h.r.lt k hk2; omega), h.b.trans hb⟩
theorem MJ.doR (h : MJ w d S fp d2 R rp W) {rp' : Nat → Prop} (hm : MMach w' w.heap.size d2 hdR (R.step wk a) rp') (hf : ∀ k, rp' k → rp k ∨ W.heap.size ≤ k) (ht : Turn rp W w') (hb : Below w.heap.size W w') : MJ w d S fp d2 (R.step wk a) rp' w' :=
  ⟨h.m.kept (fun k hk => ht.block k (h.m.lt k hk) (fun h1 => h.dis k hk h1)) ht.size, hm, fun k hk hk2 => (hf k hk2).elim (fun h1 => h.dis k hk h1) (fun h1 => by have := h.m.lt k hk; omega), h.b.trans hb⟩
/-- A clone in the memory's place, and what is done to the old one. -/
theorem MJ.clone (h : MJ w d S fp d2 R rp W) {w1 w2 : World} {d' : Nat} {fp' : Nat → Prop} (hb : Below W.heap.size W w1) (hm : MMach w1 W.heap.size d' hdM S fp') (hf : ∀ k, fp' k → W.heap.size ≤ k) (ht : Turn fp w1 w2) (hb2 : Below w.heap.size w1 w2) : MJ w d' S fp' d2 R rp w2 := by
  have h1 := h.below hb
  have hs := ht.size
  refine ⟨(hm.lower h.b.size).kept (fun k hk => ht.block k (hm.lt k hk) (fun h2 => ?_)) hs, h1.r.kept (fun k hk => ht.block k (h1.r.lt k hk) (fun h2 => h.dis k h2 hk)) hs, fun k hk hk2 => ?_, h1.b.trans hb2⟩
  · have := h.m.lt k h2; have := hf k hk; omega
  · have := h.r.lt k hk2; have := hf k hk; omega
end Go.Proofs.Ytfpgdaefdpjcmaa
