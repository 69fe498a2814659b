/-
  Objects as they come in.
-/
import Derived.Test.YteccpmmedpkddaaOpenG
import Derived.Test.YteccpmmedpkddaaOb
import Derived.Test.YteccpmmedpkddaaShelf
namespace Go.Proofs.Yteccpmmedpkddaa
open Go.RowKit Go.ChangeShapes Go.WideShapes Go.ChangeAt

section
variable {H : Type} {enc : TypeId × Value → H} {W : World}
theorem fieldk {ty : TypeId} {off m : Nat} {cs l : List Value} (hc : Try.prog.cellsOf ty = m) (e : List.take (Try.prog.cellsOf ty) (List.drop off cs) = l) : (cs.drop off).take m = l := by rw [← hc]; exact e
theorem wf_i64 {n : Int} (h : (Lit.int .i64 n).wf = true) : inI64 n := by
  simp [Lit.wf, IntKind.min, IntKind.max, IntKind.bits, IntKind.signed] at h
  simp only [inI64]
  omega
theorem opens_str {P : Program} {t : TypeId} (ht : P.underlying t = some .string) : OpensAs enc P W t (fun s : ByteArray => [Value.string s]) (fun s => s.size ≤ 140737488351232) := fun n cs y h hlt => by
  obtain ⟨s, e, hy, _⟩ := DataW.trod_string ht h
  refine ⟨s, e, ?_⟩
  have := hlt s.data.toList.length (by rw [hy]; simp [DataW.weights])
  exact this

theorem opens_reloc : OpensAs enc Try.prog W 54 Rl.cells (Rl.ok) := fun n cs y h hlt => by
  obtain ⟨xs, k, rfl, rfl, hlen, hxl, hf⟩ := DataW.trod_struct Try.underlying54 h
  have hlen : cs.length = 4 := hlen.trans (by kernel_rfl)
  have hxl : xs.length = 4 := hxl
  have c0 : Try.prog.cellsOf 2 = 1 := by kernel_rfl
  have c1 : Try.prog.cellsOf 3 = 1 := by kernel_rfl
  obtain ⟨n0, e0, w0⟩ := (opens_int Try.underlying2) _ _ _ ((hf 0 _ rfl).trans (List.getElem?_eq_getElem (by omega))) (light_field Try.underlying54 hlt (j := 0) rfl (List.getElem?_eq_getElem (by omega)))
  obtain ⟨n1, e1, w1⟩ := (opens_int Try.underlying3) _ _ _ ((hf 1 _ rfl).trans (List.getElem?_eq_getElem (by omega))) (light_field Try.underlying54 hlt (j := 1) rfl (List.getElem?_eq_getElem (by omega)))
  obtain ⟨n2, e2, w2⟩ := (opens_int Try.underlying3) _ _ _ ((hf 2 _ rfl).trans (List.getElem?_eq_getElem (by omega))) (light_field Try.underlying54 hlt (j := 2) rfl (List.getElem?_eq_getElem (by omega)))
  obtain ⟨n3, e3, w3⟩ := (opens_int Try.underlying2) _ _ _ ((hf 3 _ rfl).trans (List.getElem?_eq_getElem (by omega))) (light_field Try.underlying54 hlt (j := 3) rfl (List.getElem?_eq_getElem (by omega)))
  have e0 := fieldk (off := 0) c0 e0
  have e1 := fieldk (off := 1) c1 e1
  have e2 := fieldk (off := 2) c1 e2
  have e3 := fieldk (off := 3) c0 e3
  match cs, hlen with
  | [v0, v1, v2, v3], _ =>
    simp at e0 e1 e2 e3
    subst e0 e1 e2 e3
    exact ⟨⟨n0, n1, n2, n3⟩, rfl, wf_i64 w0, wf_i64 w1, wf_i64 w2, wf_i64 w3⟩

theorem opens_sym : OpensAs enc Try.prog W 36 Sy.cells (Sy.ok) := fun n cs y h hlt => by
  obtain ⟨xs, k, rfl, rfl, hlen, hxl, hf⟩ := DataW.trod_struct Try.underlying36 h
  have hlen : cs.length = 4 := hlen.trans (by kernel_rfl)
  have hxl : xs.length = 4 := hxl
  have c0 : Try.prog.cellsOf 9 = 1 := by kernel_rfl
  have c1 : Try.prog.cellsOf 3 = 1 := by kernel_rfl
  have c2 : Try.prog.cellsOf 2 = 1 := by kernel_rfl
  have c3 : Try.prog.cellsOf 4 = 1 := by kernel_rfl
  obtain ⟨n0, e0, w0⟩ := (opens_str Try.underlying9) _ _ _ ((hf 0 _ rfl).trans (List.getElem?_eq_getElem (by omega))) (light_field Try.underlying36 hlt (j := 0) rfl (List.getElem?_eq_getElem (by omega)))
  obtain ⟨n1, e1, w1⟩ := (opens_int Try.underlying3) _ _ _ ((hf 1 _ rfl).trans (List.getElem?_eq_getElem (by omega))) (light_field Try.underlying36 hlt (j := 1) rfl (List.getElem?_eq_getElem (by omega)))
  obtain ⟨n2, e2, w2⟩ := (opens_int Try.underlying2) _ _ _ ((hf 2 _ rfl).trans (List.getElem?_eq_getElem (by omega))) (light_field Try.underlying36 hlt (j := 2) rfl (List.getElem?_eq_getElem (by omega)))
  obtain ⟨n3, e3, w3⟩ := (opens_bool Try.underlying4) _ _ _ ((hf 3 _ rfl).trans (List.getElem?_eq_getElem (by omega))) (light_field Try.underlying36 hlt (j := 3) rfl (List.getElem?_eq_getElem (by omega)))
  have e0 := fieldk (off := 0) c0 e0
  have e1 := fieldk (off := 1) c1 e1
  have e2 := fieldk (off := 2) c2 e2
  have e3 := fieldk (off := 3) c3 e3
  match cs, hlen with
  | [v0, v1, v2, v3], _ =>
    simp at e0 e1 e2 e3
    subst e0 e1 e2 e3
    exact ⟨⟨n0, n1, n2, n3⟩, rfl, w0, wf_i64 w1, wf_i64 w2⟩

theorem opens_sec : OpensAs enc Try.prog W 40 Sc.cells (Sc.ok W) := fun n cs y h hlt => by
  obtain ⟨xs, k, rfl, rfl, hlen, hxl, hf⟩ := DataW.trod_struct Try.underlying40 h
  have hlen : cs.length = 6 := hlen.trans (by kernel_rfl)
  have hxl : xs.length = 6 := hxl
  have c0 : Try.prog.cellsOf 9 = 1 := by kernel_rfl
  have c1 : Try.prog.cellsOf 3 = 1 := by kernel_rfl
  have c2 : Try.prog.cellsOf 2 = 1 := by kernel_rfl
  have c3 : Try.prog.cellsOf 37 = 1 := by kernel_rfl
  have c4 : Try.prog.cellsOf 38 = 1 := by kernel_rfl
  obtain ⟨n0, e0, w0⟩ := (opens_str Try.underlying9) _ _ _ ((hf 0 _ rfl).trans (List.getElem?_eq_getElem (by omega))) (light_field Try.underlying40 hlt (j := 0) rfl (List.getElem?_eq_getElem (by omega)))
  obtain ⟨n1, e1, w1⟩ := (opens_int Try.underlying3) _ _ _ ((hf 1 _ rfl).trans (List.getElem?_eq_getElem (by omega))) (light_field Try.underlying40 hlt (j := 1) rfl (List.getElem?_eq_getElem (by omega)))
  obtain ⟨n2, e2, w2⟩ := (opens_int Try.underlying2) _ _ _ ((hf 2 _ rfl).trans (List.getElem?_eq_getElem (by omega))) (light_field Try.underlying40 hlt (j := 2) rfl (List.getElem?_eq_getElem (by omega)))
  obtain ⟨n3, e3, w3⟩ := (opens_int Try.underlying2) _ _ _ ((hf 3 _ rfl).trans (List.getElem?_eq_getElem (by omega))) (light_field Try.underlying40 hlt (j := 3) rfl (List.getElem?_eq_getElem (by omega)))
  obtain ⟨⟨p4, q4, l4⟩, e4, w4⟩ := (opens_intSlice Try.underlying37 Try.underlying5 (by kernel_rfl) 1 (by kernel_rfl)) _ _ _ ((hf 4 _ rfl).trans (List.getElem?_eq_getElem (by omega))) (light_field Try.underlying40 hlt (j := 4) rfl (List.getElem?_eq_getElem (by omega)))
  obtain ⟨⟨p5, q5, l5⟩, e5, w5⟩ := (opens_slice (k := 4) Try.underlying38 (by kernel_rfl) (by decide) (fun _ => rfl) opens_reloc) _ _ _ ((hf 5 _ rfl).trans (List.getElem?_eq_getElem (by omega))) (light_field Try.underlying40 hlt (j := 5) rfl (List.getElem?_eq_getElem (by omega)))
  have e0 := fieldk (off := 0) c0 e0
  have e1 := fieldk (off := 1) c1 e1
  have e2 := fieldk (off := 2) c2 e2
  have e3 := fieldk (off := 3) c2 e3
  have e4 := fieldk (off := 4) c3 e4
  have e5 := fieldk (off := 5) c4 e5
  match cs, hlen with
  | [v0, v1, v2, v3, v4, v5], _ =>
    simp at e0 e1 e2 e3 e4 e5
    subst e0 e1 e2 e3 e4 e5
    exact ⟨⟨n0, n1, n2, n3, l4, p4, q4, l5, p5, q5⟩, rfl, ⟨w0, wf_i64 w1, wf_i64 w2, wf_i64 w3, w4.2.2.2.1, ⟨w4.1, by have h9 := w4.2.2.2.2.2; simp only at h9 ⊢; omega, w4.2.2.1⟩, w4.2.2.2.2.1, w5.2.2.2.1, ⟨w5.1, by have h9 := w5.2.2.2.2.2; rw [show Try.prog.bytesOf 54 = 32 from by kernel_rfl] at h9; simp only at h9 ⊢; omega, w5.2.2.1⟩, w5.2.2.2.2.1⟩⟩

theorem opens_obj : OpensAs enc Try.prog W 25 Ob.cells (Ob.ok W) := fun n cs y h hlt => by
  obtain ⟨xs, k, rfl, rfl, hlen, hxl, hf⟩ := DataW.trod_struct Try.underlying25 h
  have hlen : cs.length = 2 := hlen.trans (by kernel_rfl)
  have hxl : xs.length = 2 := hxl
  have c0 : Try.prog.cellsOf 22 = 1 := by kernel_rfl
  have c1 : Try.prog.cellsOf 23 = 1 := by kernel_rfl
  obtain ⟨⟨p4, q4, l4⟩, e0, w0⟩ := (opens_slice (k := 6) Try.underlying22 (by kernel_rfl) (by decide) (fun _ => rfl) opens_sec) _ _ _ ((hf 0 _ rfl).trans (List.getElem?_eq_getElem (by omega))) (light_field Try.underlying25 hlt (j := 0) rfl (List.getElem?_eq_getElem (by omega)))
  obtain ⟨⟨p5, q5, l5⟩, e1, w1⟩ := (opens_slice (k := 4) Try.underlying23 (by kernel_rfl) (by decide) (fun _ => rfl) opens_sym) _ _ _ ((hf 1 _ rfl).trans (List.getElem?_eq_getElem (by omega))) (light_field Try.underlying25 hlt (j := 1) rfl (List.getElem?_eq_getElem (by omega)))
  have e0 := fieldk (off := 0) c0 e0
  have e1 := fieldk (off := 1) c1 e1
  match cs, hlen with
  | [v0, v1], _ =>
    simp at e0 e1
    subst e0 e1
    exact ⟨⟨l4, p4, q4, l5, p5, q5⟩, rfl, ⟨w0.2.2.2.1, ⟨w0.1, by have h9 := w0.2.2.2.2.2; rw [show Try.prog.bytesOf 40 = 88 from by kernel_rfl] at h9; simp only at h9 ⊢; omega, w0.2.2.1⟩, w0.2.2.2.2.1, w1.2.2.2.1, ⟨w1.1, by have h9 := w1.2.2.2.2.2; rw [show Try.prog.bytesOf 36 = 40 from by kernel_rfl] at h9; simp only at h9 ⊢; omega, w1.2.2.1⟩, w1.2.2.2.2.1⟩⟩

end
end Go.Proofs.Yteccpmmedpkddaa
