/-
  What comes in, opened: slices of strings and of integers as rows of cells.
-/
import Derived.Test.YthmockfeffikjaaBase
import Derived.ProofKit
import Derived.OpenShut
import Derived.ShutString
import Derived.ChangeOld
import Derived.SizedLaws
import Derived.SliceStrings
namespace Go.Proofs.Ythmockfeffikjaa
open Go.RowKit Go.ChangeShapes Go.WideShapes Go.ChangeAt

section
variable {H : Type} {enc : TypeId × Value → H} {P : Program} {W : World}

theorem row_of_cells {p : Addr} {cs : List Value} (h : ∀ i (h : i < cs.length), W.cell? (p.add i) = some cs[i]) : Row W (some p) cs := by
  intro hne
  have h0 : 0 < cs.length := by cases cs with | nil => exact absurd rfl hne | cons a l => simp
  obtain ⟨b, o, s⟩ := p
  have hs : s = none := by
    have := h 0 h0
    cases s with
    | none => rfl
    | some x =>
      have e : (⟨b, o, some x⟩ : Addr).add 0 = ⟨b, o, some x⟩ := by simp [Addr.add]
      rw [e] at this
      simp only [World.cell?] at this
      split at this <;> simp at this
  subst hs
  exact ⟨b, o, rfl, fun i hi => by rw [← addr_add]; exact h i hi⟩

/-- A slice of strings that came in. -/
theorem open_strsRow {t e : TypeId} {base : Nat} {v : Value} {d : DataW H} {ps : List MemPlace} (ht : P.underlying t = some (.slice e)) (he : P.underlying e = some .string) (hc : P.cellsOf e = 1)
    (hv : Value.okWide P W .any base t v) (h : DataW.Trod enc P W 0 (fun _ => true) true t v d ps) :
    ∃ (p : Option Addr) (c : Nat) (xs sp : List ByteArray), v = .slice p xs.length c ∧ xs.length ≤ c ∧ c ≤ maxLen ∧ Row W p (xs.map Value.string) ∧ (∀ s ∈ xs, s.size ≤ maxLen) ∧ (p = none → c = 0) ∧
      ((d = .nil ∧ xs = []) ∨ d = .slice (strs xs) (strs sp)) := by
  obtain ⟨a1, len1, cap1, rfl⟩ := okWide_slice ht hv
  obtain ⟨fuel, hf⟩ := h
  rcases open_strings ht he hc hf with ⟨hcs, hx⟩ | ⟨a, len, cap, ss, hcs, _, hl, hm, hz, hx, hcell, hws⟩
  · simp [Value.cells] at hcs
    obtain ⟨rfl, rfl, rfl⟩ := hcs
    simp only [Prod.mk.injEq] at hx
    exact ⟨none, 0, [], [], rfl, Nat.le_refl _, Nat.zero_le _, Row.nil _ _, by simp, fun _ => rfl, .inl ⟨hx.1, rfl⟩⟩
  · simp [Value.cells] at hcs
    obtain ⟨rfl, rfl, rfl⟩ := hcs
    simp only [Prod.mk.injEq] at hx
    have hlen : (ss.take len1).length = len1 := by simp at hz; simp; omega
    refine ⟨some a, cap1, ss.take len1, ss.drop len1, by rw [hlen], by rw [hlen]; exact hl, hm, ?_, fun s hs => hws s (List.mem_of_mem_take hs), by simp, .inr hx.1⟩
    refine row_of_cells fun i hi => ?_
    have hi' : i < len1 := by simp at hi; omega
    have hi2 : i < ss.length := by simp at hz; omega
    rw [hcell i hi2]
    simp [List.getD, hi2]

theorem reach_strs {ts : List TypeId} {ds : List (DataW H)} {t e : TypeId} (ht : P.underlying t = some (.slice e)) (h : (DataW.weightsEach P ts ds).all (· ≤ reachBytes) = true) {j : Nat} {xs sp : List ByteArray} {d : DataW H}
    (h1 : ts[j]? = some t) (h2 : ds[j]? = some d) (hd : (d = .nil ∧ xs = []) ∨ d = .slice (strs xs) (strs sp)) : ∀ s ∈ xs, s.size ≤ 140737488351232 := by
  intro s hs
  rcases hd with ⟨_, hx⟩ | hd
  · subst hx; cases hs
  · have hmem : s.size ∈ d.weights P t := by
      rw [hd, DataW.weights, ht]
      refine List.mem_cons_of_mem _ (List.mem_append_left _ ?_)
      clear h2 hd
      induction xs with
      | nil => cases hs
      | cons a l ih =>
        simp only [strs, List.map_cons, DataW.weightsAll]
        rcases List.mem_cons.1 hs with rfl | hs
        · refine List.mem_append_left _ ?_
          simp [DataW.weights]
        · exact List.mem_append_right _ (ih hs)
    have := List.all_eq_true.1 h _ (DataW.weights_mem_each h1 h2 _ hmem)
    have h4 : s.size ≤ reachBytes := by simpa using this
    have h5 : reachBytes = 140737488351232 := by decide
    omega

/-- A slice of integers that came in. -/
theorem open_intsRow {t e : TypeId} {k : IntKind} {base : Nat} {v : Value} {d : DataW H} {ps : List MemPlace} (ht : P.underlying t = some (.slice e)) (he : P.underlying e = some (.int k)) (hc : P.cellsOf e = 1)
    (hv : Value.okWide P W .any base t v) (h : DataW.Trod enc P W 0 (fun _ => true) true t v d ps) :
    ∃ (p : Option Addr) (c : Nat) (xs : List Int), v = .slice p xs.length c ∧ xs.length ≤ c ∧ c ≤ maxLen ∧ Row W p (xs.map (Value.int k)) ∧ (∀ n ∈ xs, (Lit.int k n).wf = true) ∧ (p = none → c = 0) := by
  obtain ⟨a1, len1, cap1, rfl⟩ := okWide_slice ht hv
  obtain ⟨fuel, hf⟩ := h
  rcases open_ints ht he hc hf with ⟨hcs, _⟩ | ⟨a, len, cap, zs, hcs, _, hl, hm, hz, _, hcell, hwz⟩
  · simp [Value.cells] at hcs
    obtain ⟨rfl, rfl, rfl⟩ := hcs
    exact ⟨none, 0, [], rfl, Nat.le_refl _, Nat.zero_le _, Row.nil _ _, by simp, fun _ => rfl⟩
  · simp [Value.cells] at hcs
    obtain ⟨rfl, rfl, rfl⟩ := hcs
    have hlen : (zs.take len1).length = len1 := by simp at hz; simp; omega
    refine ⟨some a, cap1, zs.take len1, by rw [hlen], by rw [hlen]; exact hl, hm, ?_, fun s hs => hwz s (List.mem_of_mem_take hs), by simp⟩
    refine row_of_cells fun i hi => ?_
    have hi' : i < len1 := by simp at hi; omega
    have hi2 : i < zs.length := by simp at hz; omega
    rw [hcell i hi2]
    simp [List.getD, hi2]
end
end Go.Proofs.Ythmockfeffikjaa
