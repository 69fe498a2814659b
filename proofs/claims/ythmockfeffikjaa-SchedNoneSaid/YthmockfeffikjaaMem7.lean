/-
  New of the code's memory.
-/
import Derived.Test.YthmockfeffikjaaMem5
import Derived.Test.YthmockfeffikjaaAppStep
import Derived.Test.YthmockfeffikjaaCheck
namespace Go.Proofs.Ythmockfeffikjaa
open Go.RowKit
variable {W w w1 w2 w3 w4 : World} {base d : Nat} {hd : Value → Int → Obj} {v v' : Value} {ys : List CeR} {S : Mem} {fp : Nat → Prop}

theorem ECell : Elem Try.prog 25 30 7 72 (.agg #[i64 0, i64 0, i64 0, i64 0, .slice none 0 0, i64 0, .bool false]) := Elem.mk' Try.underlying25 (by kernel_rfl) rfl (by decide)
theorem ceCells_one (y : CeR) : ∀ u ∈ CeR.cells y, u.oneCell' = true := by
  intro u hu
  simp [CeR.cells] at hu
  rcases hu with rfl | rfl | rfl | rfl | rfl | rfl | rfl <;> rfl
theorem ceRow_snoc (ys : List CeR) (y : CeR) : ceRow (ys ++ [y]) = ceRow ys ++ CeR.cells y := by simp [ceRow]
theorem MemIs.wider {fp' : Nat → Prop} (H : MemIs W base d hd v ys S fp) (h : ∀ k, fp k → fp' k) (hl : ∀ k, fp' k → k < W.heap.size) : MemIs W base d hd v ys S fp' :=
  ⟨H.cs, H.ok, H.head, H.own, H.sl, h _ H.fd, fun g hg => h g (H.fv g hg), fun y hy q e => h _ (H.fs y hy q e), H.nd, H.ap, hl, H.bd⟩
/-- A memory behind an append of a cell of its own. -/
theorem MemIs.push (H : MemIs w base d hd v ys S fp) (hB : Below w.heap.size w w2) (y : CeR) (hok : okP y.x = true) (hs : SlAt w2 y.p y.c y.x.came) (hp : ∀ q, y.p = some q → w.heap.size ≤ q.block ∧ q.block < w2.heap.size)
    {n : Nat} (hn : n = ys.length + 1) (hown : w3.ownsRow base 30 7 v' n (ceRow ys ++ CeR.cells y)) (hg : w2.grownBy w3 v.ownBlock) (hst : Stayed w2 v v') (m : Int)
    (h4d : w4.heap[d]? = some (hd v' m)) (h4 : ∀ j, j ≠ d → w4.heap[j]? = w3.heap[j]?) (h4s : w4.heap.size = w3.heap.size) :
    MemIs w4 base d hd v' (ys ++ [y]) ⟨S.cs ++ [y.x], m⟩ (fun j => fp j ∨ (w.heap.size ≤ j ∧ j < w4.heap.size)) := by
  have hdl := H.lt _ H.fd
  have hvl := fun g hg => H.lt g (H.fv g hg)
  have hs2 := hB.size
  have hs3 := hg.size
  have hgd : ∀ g, v'.ownBlock = some g → g ≠ d := fun g hg' e => by
    subst e
    rcases hst _ hg' with h | h
    · exact H.nd h
    · omega
  have near : ∀ j, j < w2.heap.size → j ≠ d → v.ownBlock ≠ some j → w4.heap[j]? = w2.heap[j]? := fun j hj hjd hjv => (h4 j hjd).trans (hg.block j hj (fun e => hjv e.symm))
  have olds : ∀ z ∈ ys, ∀ q, z.p = some q → q.block < w.heap.size := fun z hz q e => H.lt _ (H.fs z hz q e)
  refine ⟨?_, fun z hz => ?_, h4d, ?_, fun z hz => ?_, .inl H.fd, fun g hg' => ?_, fun z hz q e => ?_, fun e => hgd d e rfl, fun z hz q e => ?_, fun k hk => ?_, H.bd⟩
  · rw [List.map_append, ← H.cs]; rfl
  · rcases List.mem_append.1 hz with h | h
    · exact H.ok z h
    · rw [List.mem_singleton.1 h]; exact hok
  · rw [ceRow_snoc, List.length_append, List.length_singleton, ← hn]
    exact own_blk hown (fun g hg' => h4 g (hgd g hg'))
  · rcases List.mem_append.1 hz with h | h
    · refine (H.sl z h).blk (fun q e => ?_)
      have h1 := olds z h q e
      have h2 := H.ap z h q e
      exact (near _ (by omega) h2.1 h2.2).trans (hB.block _ h1)
    · rw [List.mem_singleton.1 h]
      refine hs.blk (fun q e => ?_)
      have h1 := hp q e
      exact near _ h1.2 (by omega) (fun e2 => by have := hvl _ e2; omega)
  · rcases hst g hg' with h | h
    · exact .inl (H.fv g h)
    · have := own_lt hown g hg'; exact .inr ⟨by omega, by omega⟩
  · rcases List.mem_append.1 hz with h | h
    · exact .inl (H.fs z h q e)
    · rw [List.mem_singleton.1 h] at e
      have h1 := hp q e
      exact .inr ⟨h1.1, by omega⟩
  · rcases List.mem_append.1 hz with h | h
    · refine ⟨(H.ap z h q e).1, fun e2 => ?_⟩
      rcases hst _ e2 with h3 | h3
      · exact (H.ap z h q e).2 h3
      · have := olds z h q e; omega
    · rw [List.mem_singleton.1 h] at e
      have h1 := hp q e
      refine ⟨by omega, fun e2 => ?_⟩
      rcases hst _ e2 with h3 | h3
      · have := hvl _ h3; omega
      · omega
  · rcases hk with h | h
    · have := H.lt k h; omega
    · exact h.2

def newE (l : List Ce) : Int := if 4096 < l.length then 3 else if l.all okP then 0 else 230
def NewTell (w : World) (hd : Value → Int → Obj) (l : List Ce) (e : Ending) (w' : World) : Prop :=
  (newE l = 0 ∧ ∃ d fp, e = .returned (.tuple #[.pointer (some ⟨d, 0, none⟩), i64 0]) ∧ MMach w' w.heap.size d hd ⟨l, 0⟩ fp ∧ (∀ k, fp k → w.heap.size ≤ k) ∧ Below w.heap.size w w') ∨
  (newE l ≠ 0 ∧ e = .returned (.tuple #[.pointer none, i64 (newE l)]) ∧ Below w.heap.size w w')
def NI (w : World) (hd : Value → Int → Obj) (zs : List CeR) (k : Nat) (wr : World) : Prop :=
  (∀ z ∈ zs.take k, okP z.x = true) ∧ Below w.heap.size w wr ∧ w.heap.size < wr.heap.size ∧ ∃ v ys, MemIs wr w.heap.size w.heap.size hd v ys ⟨(zs.take k).map CeR.x, 0⟩ (fun j => w.heap.size ≤ j ∧ j < wr.heap.size) ∧ ys.length = k
theorem NI.start (zs : List CeR) (hd : Value → Int → Obj) (hb : Below w.heap.size w w1) (h : w1.heap[w.heap.size]? = some (hd (.slice none 0 0) 0)) : NI w hd zs 0 w1 := by
  have hz := (Array.getElem?_eq_some_iff.1 h).1
  refine ⟨fun z hz => (by simp at hz), hb, hz, .slice none 0 0, [], ⟨rfl, fun y hy => (by cases hy), h, World.ownsRow_nil _ _ _ _, fun y hy => (by cases hy), ⟨Nat.le_refl _, hz⟩, fun g hg => (by cases hg), fun y hy => (by cases hy), fun e => (by cases e), fun y hy => (by cases hy), fun k hk => hk.2, Nat.le_refl _⟩, rfl⟩
theorem NI.push {zs : List CeR} {k : Nat} {wr : World} (hk : k < zs.length) {x : Ce} (hx : zs[k].x = x) (hok : okP x = true) (hbw : Below w.heap.size w wr) (hzw : w.heap.size < wr.heap.size) (hall : ∀ z ∈ zs.take k, okP z.x = true)
    (H : MemIs wr w.heap.size w.heap.size hd v ys ⟨(zs.take k).map CeR.x, 0⟩ (fun j => w.heap.size ≤ j ∧ j < wr.heap.size)) (hyl : ys.length = k)
    (hB : Below wr.heap.size wr w2) {p : Option Addr} {c : Nat} (hs : SlAt w2 p c x.came) (hp : ∀ q, p = some q → wr.heap.size ≤ q.block ∧ q.block < w2.heap.size)
    (hown : w3.ownsRow w.heap.size 30 7 v' (k + 1) (ceRow ys ++ CeR.cells ⟨x, p, c⟩)) (hg : w2.grownBy w3 v.ownBlock) (hst : Stayed w2 v v')
    (h4d : w4.heap[w.heap.size]? = some (hd v' 0)) (h4 : ∀ j, j ≠ w.heap.size → w4.heap[j]? = w3.heap[j]?) (h4s : w4.heap.size = w3.heap.size) (h4o : w4.os = w3.os ∧ w4.tape = w3.tape ∧ w4.output = w3.output) : NI w hd zs (k + 1) w4 := by
  have hs2 := hB.size
  have hs3 := hg.size
  refine ⟨fun z hz => ?_, ?_, by omega, v', ys ++ [⟨x, p, c⟩], ?_, by simp [hyl]⟩
  · rw [take_succ zs k hk] at hz
    rcases List.mem_append.1 hz with h | h
    · exact hall z h
    · rw [List.mem_singleton.1 h, hx]; exact hok
  · refine ⟨by rw [h4o.1, hg.os, hB.os, hbw.os], by rw [h4o.2.1, hg.tape, hB.tape, hbw.tape], by rw [h4o.2.2, hg.output, hB.output, hbw.output], by omega, fun j hj => ?_⟩
    refine (h4 j (by omega)).trans ((hg.block j (by omega) (fun e => ?_)).trans ((hB.block j (by omega)).trans (hbw.block j hj)))
    have := (H.fv j e.symm).1; omega
  · have := (H.push hB ⟨x, p, c⟩ hok hs hp (by rw [hyl]) hown hg hst 0 h4d h4 h4s).wider (fp' := fun j => w.heap.size ≤ j ∧ j < w4.heap.size) (fun j hj => by rcases hj with h | h <;> omega) (fun j hj => hj.2)
    rw [take_succ zs k hk, List.map_append]
    show MemIs _ _ _ _ _ _ ⟨_ ++ [zs[k].x], 0⟩ _
    rw [hx]
    exact this
end Go.Proofs.Ythmockfeffikjaa
