/-
  What Clone of the code's memory holds between two rounds, in plain words.
-/
import Derived.Test.YtfpgdaefdpjcmaaMem11
namespace Go.Proofs.Ytfpgdaefdpjcmaa
open Go.RowKit
variable {W w w1 w2 w3 w4 W' : World} {base d : Nat} {hd : Value → Int → Obj} {v v' : Value} {ys : List CeR} {S : Mem} {fp : Nat → Prop}

/-- A memory behind an append of a cell whose slice is not in its footprint. -/
theorem MemIs.push2 (H : MemIs w base d hd v ys S fp) (hB : Below w.heap.size w w2) (y : CeR) (hok : okP y.x = true) (hs : SlAt w2 y.p y.c y.x.came) (hp : ∀ q, y.p = some q → ¬ fp q.block ∧ q.block < w2.heap.size)
    {n : Nat} (hn : n = ys.length + 1) (hown : w3.ownsRow base 24 7 v' n (ceRow ys ++ CeR.cells y)) (hg : w2.grownBy w3 v.ownBlock) (hst : Stayed w2 v v') (m : Int)
    (h4d : w4.heap[d]? = some (hd v' m)) (h4 : ∀ j, j ≠ d → w4.heap[j]? = w3.heap[j]?) (h4s : w4.heap.size = w3.heap.size) :
    MemIs w4 base d hd v' (ys ++ [y]) ⟨S.cs ++ [y.x], m⟩ (fun j => fp j ∨ (∃ q, y.p = some q ∧ j = q.block) ∨ (w.heap.size ≤ j ∧ j < w4.heap.size)) := by
  have hdl := H.lt _ H.fd
  have hvl := fun g hg => H.lt g (H.fv g hg)
  have hs2 := hB.size
  have hs3 := hg.size
  have hqd : ∀ q, y.p = some q → q.block ≠ d := fun q e e2 => (hp q e).1 (by rw [e2]; exact H.fd)
  have hqv : ∀ q, y.p = some q → v.ownBlock ≠ some q.block := fun q e e2 => (hp q e).1 (H.fv _ e2)
  have hgd : ∀ g, v'.ownBlock = some g → g ≠ d := fun g hg' e => by
    subst e
    rcases hst _ hg' with h | h
    · exact H.nd h
    · omega
  have near : ∀ j, j < w2.heap.size → j ≠ d → v.ownBlock ≠ some j → w4.heap[j]? = w2.heap[j]? := fun j hj hjd hjv => (h4 j hjd).trans (hg.block j hj (fun e => hjv e.symm))
  have olds : ∀ z ∈ ys, ∀ q, z.p = some q → q.block < w.heap.size := fun z hz q e => H.lt _ (H.fs z hz q e)
  refine ⟨?_, fun z hz => ?_, h4d, ?_, fun z hz => ?_, .inl H.fd, fun g hg' => ?_, fun z hz q e => ?_, fun e => hgd d e rfl, fun z hz q e => ?_, fun k hk => ?_, H.bd⟩
  · rw [List.map_append, ← H.cs]; rfl
  · rcases List.mem_append.1 hz with h | h
    · exact H.ok z h
    · rw [List.mem_singleton.1 h]; exact hok
  · rw [ceRow_snoc, List.length_append, List.length_singleton, ← hn]
    exact own_blk hown (fun g hg' => h4 g (hgd g hg'))
  · rcases List.mem_append.1 hz with h | h
    · refine (H.sl z h).blk (fun q e => ?_)
      have h1 := olds z h q e
      have h2 := H.ap z h q e
      exact (near _ (by omega) h2.1 h2.2).trans (hB.block _ h1)
    · rw [List.mem_singleton.1 h]
      exact hs.blk (fun q e => near _ (hp q e).2 (hqd q e) (hqv q e))
  · rcases hst g hg' with h | h
    · exact .inl (H.fv g h)
    · have := own_lt hown g hg'; exact .inr (.inr ⟨by omega, by omega⟩)
  · rcases List.mem_append.1 hz with h | h
    · exact .inl (H.fs z h q e)
    · rw [List.mem_singleton.1 h] at e
      exact .inr (.inl ⟨q, e, rfl⟩)
  · rcases List.mem_append.1 hz with h | h
    · refine ⟨(H.ap z h q e).1, fun e2 => ?_⟩
      rcases hst _ e2 with h3 | h3
      · exact (H.ap z h q e).2 h3
      · have := olds z h q e; omega
    · rw [List.mem_singleton.1 h] at e
      refine ⟨hqd q e, fun e2 => ?_⟩
      rcases hst _ e2 with h3 | h3
      · exact hqv q e h3
      · have := (hp q e).2; omega
  · rcases hk with h | ⟨q, e, rfl⟩ | h
    · have := H.lt k h; omega
    · have := (hp q e).2; omega
    · exact h.2

/-- What Clone holds between two rounds: the memory that is made, the pointer's block; B: the rounds' book-keeping. -/
structure ClI (w : World) (dc pb B : Nat) (m : Int) (pre : List (Int × CeR)) (T : Nat → Prop) (hs : Nat) (W : World) (v : Value) (zs : List CeR) (fp : Nat → Prop) : Prop where
  b : Below w.heap.size w W
  m : MemIs W w.heap.size dc hdM v zs ⟨pre.map (·.2.x), m⟩ fp
  p : W.heap[pb]? = some (.cells #[.pointer (some ⟨dc, 0, none⟩)] 54 (0, 0))
  len : zs.length = pre.length
  f : ∀ k, fp k → k < hs ∧ (k = dc ∨ B + 2 ≤ k)
  td : ¬ T dc
  tv : ∀ g, v.ownBlock = some g → ¬ T g
  lt : ∀ k, T k → k < hs
  hl : hs ≤ W.heap.size
  dp : dc < B ∧ pb < B ∧ dc ≠ pb ∧ w.heap.size ≤ pb
  Bh : B + 2 ≤ hs
  pv : ∀ g, v.ownBlock = some g → g ≠ pb
def ClJ (w : World) (dc pb B : Nat) (m : Int) (pre : List (Int × CeR)) (T : Nat → Prop) (hs : Nat) (W : World) : Prop := ∃ v zs fp, ClI w dc pb B m pre T hs W v zs fp
variable {dc pb B hs hs' l : Nat} {m : Int} {pre : List (Int × CeR)} {T : Nat → Prop} {zs : List CeR}
theorem ClJ.later (h : ClJ w dc pb B m pre T hs W) (h' : StM W W') : ClJ w dc pb B m pre T hs W' := by
  obtain ⟨v, zs, fp, h⟩ := h
  exact ⟨v, zs, fp, h.b.trans (h'.mono h.b.size), h.m.below h', (h'.block _ (Array.getElem?_eq_some_iff.1 h.p).1).trans h.p, h.len, h.f, h.td, h.tv, h.lt, Nat.le_trans h.hl h'.size, h.dp, h.Bh, h.pv⟩
theorem ClJ.putObj {r : Loop} (h : ClJ w dc pb B m pre T hs W) (hl : W.heap[B + 1]? = some (.loop r)) (o : Obj) : ClJ w dc pb B m pre T hs (W.putObj (B + 1) o) := by
  obtain ⟨v, zs, fp, h⟩ := h
  have hd := h.dp
  have := h.m.bd
  exact ⟨v, zs, fp, Below.putObjB h.b h.b.size (by omega) o, h.m.kept (fun k hk => World.putObj_heap_other (by have := h.f k hk; omega)) (by simp), (World.putObj_heap_other (by omega)).trans h.p, h.len, h.f, h.td, h.tv, h.lt, by simpa using h.hl, h.dp, h.Bh, h.pv⟩
theorem ClJ.up (h : ClJ w dc pb B m pre T hs W) (h1 : hs ≤ hs') (h2 : hs' ≤ W.heap.size) : ClJ w dc pb B m pre T hs' W := by
  obtain ⟨v, zs, fp, h⟩ := h
  exact ⟨v, zs, fp, h.b, h.m, h.p, h.len, fun k hk => ⟨Nat.lt_of_lt_of_le (h.f k hk).1 h1, (h.f k hk).2⟩, h.td, h.tv, fun k hk => Nat.lt_of_lt_of_le (h.lt k hk) h1, h2, h.dp, Nat.le_trans h.Bh h1, h.pv⟩
/-- A round: W1 ahead of the append, w2 with the element in a block of its own, w3 behind the append, the slice stored. -/
theorem ClI.push (h : ClI w dc pb B m pre T hs W v zs fp) {W0 : Nat} (hW0 : hs ≤ W0) (hW : W0 < W.heap.size) (hB : Below W.heap.size W w2) {k : Int} {x : Ce} {p : Option Addr} {c : Nat} (hok : okP x = true) (hsl : SlAt w2 p c x.came) (hp : ∀ q, p = some q → hs ≤ q.block ∧ q.block < W0)
    (hown : w3.ownsRow w.heap.size 24 7 v' (zs.length + 1) (ceRow zs ++ CeR.cells ⟨x, p, c⟩)) (hg : w2.grownBy w3 v.ownBlock) (hst : Stayed w2 v v')
    (hd3 : w3.heap[dc]? = some (hdM v m)) :
    ClJ w dc pb B m (pre ++ [(k, ⟨x, p, c⟩)]) (fun j => T j ∨ (hs ≤ j ∧ j < W0)) (w3.setCell ⟨dc, 1, none⟩ v').heap.size (w3.setCell ⟨dc, 1, none⟩ v') ∧ KeepsT (fun j => (T j ∨ (hs ≤ j ∧ j < W0)) ∨ j = B ∨ j = B + 1) W (w3.setCell ⟨dc, 1, none⟩ v') := by
  have hdp := h.dp
  have hs2 := hB.size
  have hs3 := hg.size
  have hBh := h.Bh
  have hhs := h.hl
  have hbd := h.m.bd
  have hvB : ∀ g, v.ownBlock = some g → g < hs ∧ B + 2 ≤ g := fun g hg => by
    have h1 := h.f g (h.m.fv g hg)
    refine ⟨h1.1, h1.2.resolve_left (fun e => h.m.nd (by rw [← e]; exact hg))⟩
  have hM := h.m.push2 hB ⟨x, p, c⟩ hok hsl (fun q hq => ⟨fun hf => by have := (h.f _ hf).1; have := (hp q hq).1; omega, by have := (hp q hq).2; omega⟩) rfl hown hg hst m (w4 := w3.setCell ⟨dc, 1, none⟩ v')
    (heap_setCell_same w3 dc 1 _ _ _ hd3) (fun j hj => Below.heap_setCell _ _ _ _ hj) (by simp)
  have hsz : (w3.setCell ⟨dc, 1, none⟩ v').heap.size = w3.heap.size := by simp
  have hpn : ∀ g, v'.ownBlock = some g → g ≠ pb := fun g hg' e => by
    rcases hst _ hg' with h3 | h3
    · exact h.pv g h3 e
    · omega
  have hvw : ∀ j, v.ownBlock = some j → w.heap.size ≤ j := fun j e => by have := hvB j e; omega
  refine ⟨⟨v', zs ++ [⟨x, p, c⟩], fun j => fp j ∨ (∃ q, p = some q ∧ j = q.block) ∨ (W.heap.size ≤ j ∧ j < (w3.setCell ⟨dc, 1, none⟩ v').heap.size), ?_, ?_, ?_, by simp [h.len], fun j hj => ?_, ?_, fun g hg' => ?_, fun j hj => ?_, Nat.le_refl _, hdp, by omega, hpn⟩, ?_⟩
  · exact ((h.b.trans (hB.mono h.b.size)).grown hg (by have := h.b.size; omega) (fun j e => hvw j e)).setCell (show w.heap.size ≤ dc by omega) _
  · have : (pre ++ [(k, (⟨x, p, c⟩ : CeR))]).map (·.2.x) = pre.map (·.2.x) ++ [x] := by simp
    rw [this]; exact hM
  · refine (Below.heap_setCell _ _ _ _ (show pb ≠ dc by omega)).trans ((hg.block _ (by omega) (fun e => h.pv _ e.symm rfl)).trans ((hB.block _ (by omega)).trans h.p))
  · rw [hsz]
    rcases hj with hj | ⟨q, e, rfl⟩ | hj
    · have := h.f j hj; exact ⟨by omega, this.2⟩
    · have := hp q e; exact ⟨by omega, .inr (by omega)⟩
    · rw [hsz] at hj; exact ⟨hj.2, .inr (by omega)⟩
  · rintro (h3 | h3)
    · exact h.td h3
    · omega
  · rcases hst g hg' with h3 | h3
    · rintro (h4 | h4)
      · exact h.tv g h3 h4
      · have := hvB g h3; omega
    · rintro (h4 | h4)
      · have := h.lt g h4; omega
      · omega
  · rcases hj with h3 | h3
    · have := h.lt j h3; omega
    · omega
  · refine ((KeepsT.below hB).trans (KeepsT.grown hg (fun g e => ?_))).trans (KeepsT.setCell w3 _ _ ?_)
    · have hv := hvB g e
      rintro ((h3 | h3) | h3 | h3)
      · exact h.tv g e h3
      · omega
      · omega
      · omega
    · rintro ((h3 | h3) | h3 | h3)
      · exact h.td h3
      · have h4 : hs ≤ dc := h3.1; omega
      · have h4 : dc = B := h3; omega
      · have h4 : dc = B + 1 := h3; omega
end Go.Proofs.Ytfpgdaefdpjcmaa
