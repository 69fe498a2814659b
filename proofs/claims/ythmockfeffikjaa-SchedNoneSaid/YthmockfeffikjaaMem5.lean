/-
  A memory behind a store into one of its cells, in plain words.
-/
import Derived.Test.YthmockfeffikjaaMem4
namespace Go.Proofs.Ythmockfeffikjaa
open Go.RowKit
variable {W : World} {base d : Nat} {v : Value} {ys : List CeR} {S : Mem} {fp : Nat → Prop}

/-- The world behind a store of a cell. -/
def put7 (w : World) (g o : Nat) (y : CeR) : World :=
  ((((((w.setCell ⟨g, o, none⟩ (i64 y.x.kind)).setCell ⟨g, o + 1, none⟩ (i64 y.x.n)).setCell ⟨g, o + 2, none⟩ (i64 y.x.owner)).setCell ⟨g, o + 3, none⟩ (i64 y.x.need)).setCell ⟨g, o + 4, none⟩ (.slice y.p y.x.came.length y.c)).setCell ⟨g, o + 5, none⟩ (i64 y.x.turns)).setCell ⟨g, o + 6, none⟩ (.bool y.x.there)
theorem own_put7 {w : World} {e : TypeId} {g n c : Nat} (h : w.ownsRow base e 7 (.slice (some ⟨g, 0, none⟩) n c) n (ceRow ys)) (k : Nat) (hk : k < ys.length) (y : CeR) : (put7 w g (k * 7) y).ownsRow base e 7 (.slice (some ⟨g, 0, none⟩) n c) n (ceRow (ys.set k y)) := by
  rw [← ceRow_set ys k hk y]
  exact own_set (own_set (own_set (own_set (own_set (own_set (own_set h _ _) _ _) _ _) _ _) _ _) _ _) _ _
theorem put7_other (w : World) (g o : Nat) (y : CeR) (k : Nat) (h : k ≠ g) : (put7 w g o y).heap[k]? = w.heap[k]? := by
  unfold put7
  iterate 7 rw [Below.heap_setCell _ _ _ _ h]
theorem put7_size (w : World) (g o : Nat) (y : CeR) : (put7 w g o y).heap.size = w.heap.size := by unfold put7; simp
/-- The memory behind a store of a cell, and of the number of steps. -/
theorem MemIs.put {hd : Value → Int → Obj} {g n c : Nat} (H : MemIs W base d hd (.slice (some ⟨g, 0, none⟩) n c) ys S fp) (k : Nat) (hk : k < ys.length) (y : CeR) (hok : okP y.x = true) (hs : SlAt W y.p y.c y.x.came) (hf : ∀ q, y.p = some q → q.block < W.heap.size ∧ q.block ≠ d ∧ q.block ≠ g)
    (m : Int) {w2 : World} (hd2 : w2.heap[d]? = some (hd (.slice (some ⟨g, 0, none⟩) n c) m)) (ho : ∀ j, j ≠ d → w2.heap[j]? = (put7 W g (k * 7) y).heap[j]?) (hz : w2.heap.size = W.heap.size) :
    MemIs w2 base d hd (.slice (some ⟨g, 0, none⟩) n c) (ys.set k y) ⟨S.cs.set k y.x, m⟩ (fun j => fp j ∨ ∃ q, y.p = some q ∧ j = q.block) := by
  have hgd : g ≠ d := fun e => H.nd (by rw [← e]; rfl)
  have mem : ∀ z ∈ ys.set k y, z ∈ ys ∨ z = y := fun z hz => List.mem_or_eq_of_mem_set hz
  have sl : ∀ z : CeR, SlAt W z.p z.c z.x.came → (∀ q, z.p = some q → q.block ≠ d ∧ q.block ≠ g) → SlAt w2 z.p z.c z.x.came := fun z hz hq => hz.blk (fun q e => (ho _ (hq q e).1).trans (put7_other _ _ _ _ _ (hq q e).2))
  have apg : ∀ z ∈ ys, ∀ q, z.p = some q → q.block ≠ d ∧ q.block ≠ g := fun z hz q e => ⟨(H.ap z hz q e).1, fun e2 => (H.ap z hz q e).2 (by rw [e2]; rfl)⟩
  refine ⟨?_, fun z hz => ?_, hd2, ?_, fun z hz => ?_, .inl H.fd, fun g' hg' => .inl (H.fv g' hg'), fun z hz q e => ?_, H.nd, fun z hz q e => ?_, fun j hj => ?_, H.bd⟩
  · show S.cs.set k y.x = _
    rw [H.cs, List.map_set]
  · rcases mem z hz with h | rfl
    · exact H.ok z h
    · exact hok
  · rw [List.length_set]
    have h0 := H.own
    have hn : n = ys.length := by
      obtain ⟨p, c', e, _⟩ := own_shape h0
      injection e
    subst hn
    exact own_blk (own_put7 h0 k hk y) (fun g' hg' => by
      have e : g' = g := by injection hg' with hg'; exact hg'.symm
      subst e; exact ho _ hgd)
  · rcases mem z hz with h | rfl
    · exact sl z (H.sl z h) (apg z h)
    · exact sl z hs (fun q e => (hf q e).2)
  · rcases mem z hz with h | rfl
    · exact .inl (H.fs z h q e)
    · exact .inr ⟨q, e, rfl⟩
  · rcases mem z hz with h | rfl
    · exact H.ap z h q e
    · refine ⟨(hf q e).2.1, fun e2 => (hf q e).2.2 ?_⟩
      injection e2 with e2; exact e2.symm
  · rcases hj with h | ⟨q, e, rfl⟩
    · rw [hz]; exact H.lt j h
    · rw [hz]; exact (hf q e).1
end Go.Proofs.Ythmockfeffikjaa
