/-
  A cell's block behind a store of the whole cell.
-/
import Derived.Test.YthmockfeffikjaaCeR
namespace Go.Proofs.Ythmockfeffikjaa
open Go.RowKit
/-- A cell's block, stored into whole. -/
theorem ceblk_store {w : World} {b : Nat} {x : Ce} {p : Option Addr} {c : Nat} (h : CeBlk w b x p c) (x' : Ce) (p' : Option Addr) (c' : Nat) :
    CeBlk (((((((w.setCell ⟨b, 0, none⟩ (i64 x'.kind)).setCell ⟨b, 1, none⟩ (i64 x'.n)).setCell ⟨b, 2, none⟩ (i64 x'.owner)).setCell ⟨b, 3, none⟩ (i64 x'.need)).setCell ⟨b, 4, none⟩ (.slice p' x'.came.length c')).setCell ⟨b, 5, none⟩ (i64 x'.turns)).setCell ⟨b, 6, none⟩ (.bool x'.there)) b x' p' c' := by
  obtain ⟨kind, n, owner, need, came, turns, there⟩ := x
  obtain ⟨kind', n', owner', need', came', turns', there'⟩ := x'
  have h0 : CeBlk (w.setCell ⟨b, 0, none⟩ (i64 kind')) b ⟨kind', n, owner, need, came, turns, there⟩ p c := heap_setCell_same w b 0 _ _ _ h
  have h1 : CeBlk _ b ⟨kind', n', owner, need, came, turns, there⟩ p c := h0.setN n'
  have h2 : CeBlk _ b ⟨kind', n', owner', need, came, turns, there⟩ p c := h1.setOwner owner'
  have h3 : CeBlk (World.setCell _ ⟨b, 3, none⟩ (i64 need')) b ⟨kind', n', owner', need', came, turns, there⟩ p c := heap_setCell_same _ b 3 _ _ _ h2
  have h4 : CeBlk _ b ⟨kind', n', owner', need', came', turns, there⟩ p' c' := h3.setCame came' p' c'
  have h5 : CeBlk _ b ⟨kind', n', owner', need', came', turns', there⟩ p' c' := h4.setTurns turns'
  exact h5.setThere there'
theorem slat_store {w : World} {p : Option Addr} {c : Nat} {l : List Int} (h : SlAt w p c l) (b : Nat) (v0 v1 v2 v3 v4 v5 v6 : Value) (hne : ∀ q, p = some q → q.block ≠ b) :
    SlAt (((((((w.setCell ⟨b, 0, none⟩ v0).setCell ⟨b, 1, none⟩ v1).setCell ⟨b, 2, none⟩ v2).setCell ⟨b, 3, none⟩ v3).setCell ⟨b, 4, none⟩ v4).setCell ⟨b, 5, none⟩ v5).setCell ⟨b, 6, none⟩ v6) p c l := by
  have h0 := h.set b 0 v0 hne
  have h1 := h0.set b 1 v1 hne
  have h2 := h1.set b 2 v2 hne
  have h3 := h2.set b 3 v3 hne
  have h4 := h3.set b 4 v4 hne
  have h5 := h4.set b 5 v5 hne
  exact h5.set b 6 v6 hne
theorem below_store {B : Nat} {a w : World} (h : Below B a w) (b : Nat) (hb : B ≤ b) (v0 v1 v2 v3 v4 v5 v6 : Value) :
    Below B a (((((((w.setCell ⟨b, 0, none⟩ v0).setCell ⟨b, 1, none⟩ v1).setCell ⟨b, 2, none⟩ v2).setCell ⟨b, 3, none⟩ v3).setCell ⟨b, 4, none⟩ v4).setCell ⟨b, 5, none⟩ v5).setCell ⟨b, 6, none⟩ v6) := by
  have h0 := h.setCell (p := ⟨b, 0, none⟩) hb v0
  have h1 := h0.setCell (p := ⟨b, 1, none⟩) hb v1
  have h2 := h1.setCell (p := ⟨b, 2, none⟩) hb v2
  have h3 := h2.setCell (p := ⟨b, 3, none⟩) hb v3
  have h4 := h3.setCell (p := ⟨b, 4, none⟩) hb v4
  have h5 := h4.setCell (p := ⟨b, 5, none⟩) hb v5
  exact h5.setCell (p := ⟨b, 6, none⟩) hb v6

theorem ceblk_setO {w : World} {b b' : Nat} {x : Ce} {p : Option Addr} {c : Nat} (h : CeBlk w b x p c) (hne : b ≠ b') (o : Nat) (v : Value) : CeBlk (w.setCell ⟨b', o, none⟩ v) b x p c := (Below.heap_setCell w ⟨b', o, none⟩ v b hne).trans h
theorem ceblk_storeO {w : World} {b : Nat} {x : Ce} {p : Option Addr} {c : Nat} (h : CeBlk w b x p c) (b' : Nat) (hne : b ≠ b') (v0 v1 v2 v3 v4 v5 v6 : Value) :
    CeBlk (((((((w.setCell ⟨b', 0, none⟩ v0).setCell ⟨b', 1, none⟩ v1).setCell ⟨b', 2, none⟩ v2).setCell ⟨b', 3, none⟩ v3).setCell ⟨b', 4, none⟩ v4).setCell ⟨b', 5, none⟩ v5).setCell ⟨b', 6, none⟩ v6) b x p c := by
  have h0 := ceblk_setO h hne 0 v0
  have h1 := ceblk_setO h0 hne 1 v1
  have h2 := ceblk_setO h1 hne 2 v2
  have h3 := ceblk_setO h2 hne 3 v3
  have h4 := ceblk_setO h3 hne 4 v4
  have h5 := ceblk_setO h4 hne 5 v5
  exact ceblk_setO h5 hne 6 v6

end Go.Proofs.Ythmockfeffikjaa
