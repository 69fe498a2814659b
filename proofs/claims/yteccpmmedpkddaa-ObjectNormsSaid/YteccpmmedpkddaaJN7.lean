/-
  Objects in memory of their own: a section's slices cloned.
-/
import Derived.Test.YteccpmmedpkddaaJN6
namespace Go.Proofs.Yteccpmmedpkddaa
open Go.RowKit
variable {W w w' : World} {B gs gy k : Nat} {secs : List Sc} {syms : List Sy}
theorem own_base {base base2 size n : Nat} {e : TypeId} {v : Value} {xs : List Value} (h : w.ownsRow base e size v n xs) (hb : base2 ≤ base) : w.ownsRow base2 e size v n xs := by
  refine ⟨h.1, ?_⟩
  rcases h.2 with hn | ⟨g, cap, cur, hv, hge, rest⟩
  · exact .inl hn
  · exact .inr ⟨g, cap, cur, hv, Nat.le_trans hb hge, rest⟩
theorem FrO.rowS (h : FrO B w gs gy secs syms k) : Row w (some ⟨gs, 0, none⟩) (secs.flatMap Sc.cells) := by
  obtain ⟨p, c, e, hr⟩ := own_shape h.os
  cases e; exact hr
theorem FrO.rowY (h : FrO B w gs gy secs syms k) : Row w (some ⟨gy, 0, none⟩) (syms.flatMap Sy.cells) := by
  obtain ⟨p, c, e, hr⟩ := own_shape h.oy
  cases e; exact hr
theorem FrO.cellS (h : FrO B w gs gy secs syms k) (i : Nat) (hi : i < secs.length) : w.cell? ⟨gs, i * 6 + 4, none⟩ = some (dV secs[i]) ∧ w.cell? ⟨gs, i * 6 + 5, none⟩ = some (rV secs[i]) := by
  have := sc_cells h.rowS i hi
  simp only [Nat.zero_add] at this
  exact ⟨this.2.2.2.2.1, this.2.2.2.2.2⟩
/-- A store into a section's cell. -/
theorem FrO.setS (h : FrO B w gs gy secs syms k) {s s' : Sc} {i : Nat} (hs : secs[i]? = some s) (hik : k ≤ i) (j : Nat) (hj : j < 6) (v : Value) (hy : Sc.cells s' = (Sc.cells s).set j v) : FrO B (w.setCell ⟨gs, i * 6 + j, none⟩ v) gs gy (secs.set i s') syms k := by
  have hl : Lies B (fun x => x ≠ 40 + 1) w (w.setCell ⟨gs, i * 6 + j, none⟩ v) := Lies.grown (grown_set w _ v) (fun g e => by cases e; exact ⟨own_tag h.os rfl, h.base.1⟩) (fun hn => hn rfl) (by have := h.base; omega)
  refine ⟨?_, hl.own h.oy (by decide), fun a t ha ht => ?_, fun a b s1 t1 hab ha hb h1 h2 => ?_⟩
  · have := (World.ownsRow.stored h.os (i * 6 + j) v).1
    rw [set_flat Sc.cells 6 (fun _ => rfl) secs i j s v hs hj s' hy] at this
    rw [List.length_set]; exact this
  · rw [List.getElem?_set_ne (by omega)] at ht
    have := h.each a t ha ht
    exact ⟨hl.own this.data (by decide), hl.own this.rel (by decide)⟩
  · rw [List.getElem?_set_ne (by omega)] at h1 h2
    exact h.ap a b s1 t1 hab ha hb h1 h2
/-- A section more has its own bytes and relocations. -/
theorem FrO.step (h : FrO B w gs gy secs syms k) {s : Sc} (hs : secs[k]? = some s) {w1 : World} (hb1 : Below w.heap.size w w1) {p2 : Option Addr} {c2 : Nat} (ho1 : w1.ownsRow w.heap.size 5 1 (.slice p2 s.data.length c2) s.data.length (s.data.map (Value.int .u8)))
    {w3 : World} (hb3 : Below (w1.setCell ⟨gs, k * 6 + 4, none⟩ (.slice p2 s.data.length c2)).heap.size (w1.setCell ⟨gs, k * 6 + 4, none⟩ (.slice p2 s.data.length c2)) w3) {p4 : Option Addr} {c4 : Nat} (ho3 : w3.ownsRow (w1.setCell ⟨gs, k * 6 + 4, none⟩ (.slice p2 s.data.length c2)).heap.size 54 4 (.slice p4 s.rel.length c4) s.rel.length (s.rel.flatMap Rl.cells)) :
    FrO B (w3.setCell ⟨gs, k * 6 + 5, none⟩ (.slice p4 s.rel.length c4)) gs gy (secs.set k { s with dp := p2, dc := c2, rp := p4, rc := c4 }) syms (k + 1) := by
  have hkl : k < secs.length := (List.getElem?_eq_some_iff.1 hs).1
  have hbase := h.base
  have h1 := h.below hb1
  have h2 := h1.setS hs (Nat.le_refl _) 4 (by decide) (.slice p2 s.data.length c2) (s' := { s with dp := p2, dc := c2 }) rfl
  have hs2 : (secs.set k { s with dp := p2, dc := c2 })[k]? = some { s with dp := p2, dc := c2 } := by rw [List.getElem?_set_self hkl]
  have hne : ∀ g, (Value.slice p2 s.data.length c2).ownBlock = some g → g ≠ gs := fun g e => by have := own_ge ho1 g e; omega
  have d2 := own_setO ho1 ⟨gs, k * 6 + 4, none⟩ (.slice p2 s.data.length c2) hne
  have d3 := own_below d2 hb3
  have d4 := own_setO d3 ⟨gs, k * 6 + 5, none⟩ (.slice p4 s.rel.length c4) hne
  have hz2 : w.heap.size ≤ (w1.setCell ⟨gs, k * 6 + 4, none⟩ (.slice p2 s.data.length c2)).heap.size := by simp; exact hb1.size
  have r4 := own_setO ho3 ⟨gs, k * 6 + 5, none⟩ (.slice p4 s.rel.length c4) (fun g e => by have := own_ge ho3 g e; show g ≠ gs; omega)
  have h3 := h2.below hb3
  have h4 := h3.setS hs2 (Nat.le_refl _) 5 (by decide) (.slice p4 s.rel.length c4) (s' := { s with dp := p2, dc := c2, rp := p4, rc := c4 }) rfl
  rw [List.set_set] at h4
  have hlt : ∀ i t, i < k → secs[i]? = some t → (∀ g, (dV t).ownBlock = some g → g < w.heap.size) ∧ (∀ g, (rV t).ownBlock = some g → g < w.heap.size) := fun i t hi ht => ⟨own_lt (h.each i t hi ht).data, own_lt (h.each i t hi ht).rel⟩
  have hapk : ∀ i t, i < k → secs[i]? = some t → Apart (dV t) (.slice p2 s.data.length c2) ∧ Apart (rV t) (.slice p4 s.rel.length c4) := fun i t hi ht =>
    ⟨fun g e e2 => by have a := (hlt i t hi ht).1 g e; have b := own_ge ho1 g e2; omega, fun g e e2 => by have a := (hlt i t hi ht).2 g e; have b := own_ge ho3 g e2; omega⟩
  have hget : ∀ i t, i < k + 1 → (secs.set k { s with dp := p2, dc := c2, rp := p4, rc := c4 })[i]? = some t → (i < k ∧ secs[i]? = some t) ∨ (i = k ∧ t = { s with dp := p2, dc := c2, rp := p4, rc := c4 }) := fun i t hi ht => by
    by_cases e : i = k
    · subst e; rw [List.getElem?_set_self hkl] at ht; exact .inr ⟨rfl, (Option.some.inj ht).symm⟩
    · rw [List.getElem?_set_ne (fun e2 => e e2.symm)] at ht; exact .inl ⟨by omega, ht⟩
  refine ⟨h4.os, h4.oy, fun i t hi ht => ?_, fun i j t u hij hi hj ht hu => ?_⟩
  · rcases hget i t hi ht with ⟨hik, ht2⟩ | ⟨rfl, rfl⟩
    · refine h4.each i t hik ?_
      rw [List.getElem?_set_ne (by omega)]; exact ht2
    · exact ⟨own_base d4 (by omega), own_base r4 (by omega)⟩
  · rcases hget i t hi ht with ⟨hik, ht2⟩ | ⟨rfl, rfl⟩ <;> rcases hget j u hj hu with ⟨hjk, hu2⟩ | ⟨rfl, rfl⟩
    · exact h.ap i j t u hij hik hjk ht2 hu2
    · exact hapk i t hik ht2
    · exact ⟨(hapk j u hjk hu2).1.symm, (hapk j u hjk hu2).2.symm⟩
    · exact absurd rfl hij
end Go.Proofs.Yteccpmmedpkddaa
