/-
  Rows, lines and units as they come in: openers (printed by genopen.py).
  Rows as they come in, and what they cost: no more than their bulk.
-/
import Derived.Test.YthlingholhjcnaaJO0
import Derived.Test.YthlingholhjcnaaProg
import Derived.Test.YthlingholhjcnaaJO8
import Derived.Test.YthlingholhjcnaaJO3
namespace Go.Proofs.Ythlingholhjcnaa
open Go.RowKit Go.ChangeShapes Go.WideShapes Go.ChangeAt

section
variable {H : Type} {enc : TypeId × Value → H} {W : World}
theorem fieldk {ty : TypeId} {off m : Nat} {cs l : List Value} (hc : Try.prog.cellsOf ty = m) (e : List.take (Try.prog.cellsOf ty) (List.drop off cs) = l) : (cs.drop off).take m = l := by rw [← hc]; exact e
theorem wf_i64 {n : Int} (h : (Lit.int .i64 n).wf = true) : inI64 n := by
  simp [Lit.wf, IntKind.min, IntKind.max, IntKind.bits, IntKind.signed] at h
  simp only [inI64]
  omega
theorem wf_u8 {n : Int} (h : (Lit.int .u8 n).wf = true) : 0 ≤ n ∧ n ≤ 255 := by
  simp [Lit.wf, IntKind.min, IntKind.max, IntKind.bits, IntKind.signed] at h
  omega
theorem opens_str {P : Program} {t : TypeId} (ht : P.underlying t = some .string) : OpensAs enc P W t (fun s : ByteArray => [Value.string s]) (fun s => s.size ≤ 140737488351232) := fun n cs y h hlt => by
  obtain ⟨s, e, hy, _⟩ := DataW.trod_string ht h
  refine ⟨s, e, ?_⟩
  have := hlt s.data.toList.length (by rw [hy]; simp [DataW.weights])
  exact this
/-- A slice of what opens, in our words. -/
theorem opens_sl {P : Program} {α : Type} {f : α → List Value} {ok : α → Prop} {t e : TypeId} {k bytes : Nat} (ht : P.underlying t = some (.slice e)) (hc : P.cellsOf e = k) (hb : P.bytesOf e = bytes) (hk0 : 0 < k) (hk : ∀ x, (f x).length = k) (hel : OpensAs enc P W e f ok) :
    OpensAs enc P W t (fun s : Sl α => [s.val]) (fun s => SlOk W f bytes s ∧ ∀ y ∈ s.l, ok y) := fun n cs y h hlt => by
  obtain ⟨⟨p, c, l⟩, e, h1, h2, h3, h4, h5, h6⟩ := opens_slice ht hc hk0 hk hel n cs y h hlt
  exact ⟨⟨p, c, l⟩, e, ⟨h4, h1, by rw [← hb]; exact Nat.le_trans (Nat.mul_le_mul_right _ h1) h6, h3⟩, h5⟩
theorem opens_u8 : OpensAs enc Try.prog W 5 (fun n : Int => [Value.int .u8 n]) (fun n => 0 ≤ n ∧ n ≤ 255) := fun n cs y h hlt => by
  obtain ⟨x, e, hx⟩ := opens_int Try.underlying5 n cs y h hlt
  exact ⟨x, e, wf_u8 hx⟩
theorem map_flat {α : Type} (f : α → Value) : ∀ l : List α, l.map f = l.flatMap (fun x => [f x])
  | [] => rfl
  | a :: l => by rw [List.map_cons, List.flatMap_cons, map_flat f l]; rfl
theorem opens_bytes : OpensAs enc Try.prog W 55 (fun s : Sl Int => [s.val]) (fun s => SlOk W (fun n : Int => [Value.int .u8 n]) 1 s ∧ ∀ y ∈ s.l, 0 ≤ y ∧ y ≤ 255) := fun n cs y h hlt => by
  obtain ⟨⟨p, c, l⟩, e, h1, h2, h3, h4, h5, h6⟩ := opens_intSlice Try.underlying55 Try.underlying5 (by kernel_rfl) 1 (by kernel_rfl) n cs y h hlt
  refine ⟨⟨p, c, l⟩, e, ⟨?_, h1, by dsimp only at h1 h6 ⊢; omega, h3⟩, fun y hy => wf_u8 (h5 y hy)⟩
  rw [← map_flat]; exact h4
theorem opens_strs : OpensAs enc Try.prog W 53 (fun s : Sl ByteArray => [s.val]) (fun s => SlOk W (fun s : ByteArray => [Value.string s]) 16 s ∧ ∀ y ∈ s.l, y.size ≤ 140737488351232) :=
  opens_sl Try.underlying53 (by kernel_rfl) (by kernel_rfl) (by decide) (fun _ => rfl) (opens_str Try.underlying9)
set_option maxRecDepth 20000 in
theorem opens_Vv : OpensAs enc Try.prog W 62 Vv.cells Vv.ok := fun n cs y h hlt => by
  obtain ⟨xs, k, rfl, rfl, hlen, hxl, hf⟩ := DataW.trod_struct Try.underlying62 h
  have hlen : cs.length = 3 := hlen.trans (by kernel_rfl)
  have hxl : xs.length = 3 := hxl
  have c0 : Try.prog.cellsOf 2 = 1 := by kernel_rfl
  obtain ⟨n0, e0, w0⟩ := (opens_int Try.underlying2) _ _ _ ((hf 0 _ rfl).trans (List.getElem?_eq_getElem (by omega))) (light_field Try.underlying62 hlt (j := 0) rfl (List.getElem?_eq_getElem (by omega)))
  have e0 := fieldk (off := 0) c0 e0
  have c1 : Try.prog.cellsOf 9 = 1 := by kernel_rfl
  obtain ⟨n1, e1, w1⟩ := (opens_str Try.underlying9) _ _ _ ((hf 1 _ rfl).trans (List.getElem?_eq_getElem (by omega))) (light_field Try.underlying62 hlt (j := 1) rfl (List.getElem?_eq_getElem (by omega)))
  have e1 := fieldk (off := 1) c1 e1
  have c2 : Try.prog.cellsOf 9 = 1 := by kernel_rfl
  obtain ⟨n2, e2, w2⟩ := (opens_str Try.underlying9) _ _ _ ((hf 2 _ rfl).trans (List.getElem?_eq_getElem (by omega))) (light_field Try.underlying62 hlt (j := 2) rfl (List.getElem?_eq_getElem (by omega)))
  have e2 := fieldk (off := 2) c2 e2
  match cs, hlen with
  | [v0, v1, v2], _ =>
    simp at e0 e1 e2
    subst e0
    subst e1
    subst e2
    exact ⟨⟨n0, n1, n2⟩, rfl, ⟨wf_i64 w0, w1, w2⟩⟩
set_option maxRecDepth 20000 in
theorem opens_Rg : OpensAs enc Try.prog W 70 Rg.cells Rg.ok := fun n cs y h hlt => by
  obtain ⟨xs, k, rfl, rfl, hlen, hxl, hf⟩ := DataW.trod_struct Try.underlying70 h
  have hlen : cs.length = 3 := hlen.trans (by kernel_rfl)
  have hxl : xs.length = 3 := hxl
  have c0 : Try.prog.cellsOf 3 = 1 := by kernel_rfl
  obtain ⟨n0, e0, w0⟩ := (opens_int Try.underlying3) _ _ _ ((hf 0 _ rfl).trans (List.getElem?_eq_getElem (by omega))) (light_field Try.underlying70 hlt (j := 0) rfl (List.getElem?_eq_getElem (by omega)))
  have e0 := fieldk (off := 0) c0 e0
  have c1 : Try.prog.cellsOf 4 = 1 := by kernel_rfl
  obtain ⟨n1, e1, w1⟩ := (opens_bool Try.underlying4) _ _ _ ((hf 1 _ rfl).trans (List.getElem?_eq_getElem (by omega))) (light_field Try.underlying70 hlt (j := 1) rfl (List.getElem?_eq_getElem (by omega)))
  have e1 := fieldk (off := 1) c1 e1
  have c2 : Try.prog.cellsOf 4 = 1 := by kernel_rfl
  obtain ⟨n2, e2, w2⟩ := (opens_bool Try.underlying4) _ _ _ ((hf 2 _ rfl).trans (List.getElem?_eq_getElem (by omega))) (light_field Try.underlying70 hlt (j := 2) rfl (List.getElem?_eq_getElem (by omega)))
  have e2 := fieldk (off := 2) c2 e2
  match cs, hlen with
  | [v0, v1, v2], _ =>
    simp at e0 e1 e2
    subst e0
    subst e1
    subst e2
    exact ⟨⟨n0, n1, n2⟩, rfl, ⟨wf_i64 w0⟩⟩
set_option maxRecDepth 20000 in
theorem opens_Oc : OpensAs enc Try.prog W 72 Oc.cells Oc.ok := fun n cs y h hlt => by
  obtain ⟨xs, k, rfl, rfl, hlen, hxl, hf⟩ := DataW.trod_struct Try.underlying72 h
  have hlen : cs.length = 15 := hlen.trans (by kernel_rfl)
  have hxl : xs.length = 9 := hxl
  have c0 : Try.prog.cellsOf 3 = 1 := by kernel_rfl
  obtain ⟨n0, e0, w0⟩ := (opens_int Try.underlying3) _ _ _ ((hf 0 _ rfl).trans (List.getElem?_eq_getElem (by omega))) (light_field Try.underlying72 hlt (j := 0) rfl (List.getElem?_eq_getElem (by omega)))
  have e0 := fieldk (off := 0) c0 e0
  have c1 : Try.prog.cellsOf 70 = 3 := by kernel_rfl
  obtain ⟨n1, e1, w1⟩ := opens_Rg _ _ _ ((hf 1 _ rfl).trans (List.getElem?_eq_getElem (by omega))) (light_field Try.underlying72 hlt (j := 1) rfl (List.getElem?_eq_getElem (by omega)))
  have e1 := fieldk (off := 1) c1 e1
  have c2 : Try.prog.cellsOf 70 = 3 := by kernel_rfl
  obtain ⟨n2, e2, w2⟩ := opens_Rg _ _ _ ((hf 2 _ rfl).trans (List.getElem?_eq_getElem (by omega))) (light_field Try.underlying72 hlt (j := 2) rfl (List.getElem?_eq_getElem (by omega)))
  have e2 := fieldk (off := 4) c2 e2
  have c3 : Try.prog.cellsOf 3 = 1 := by kernel_rfl
  obtain ⟨n3, e3, w3⟩ := (opens_int Try.underlying3) _ _ _ ((hf 3 _ rfl).trans (List.getElem?_eq_getElem (by omega))) (light_field Try.underlying72 hlt (j := 3) rfl (List.getElem?_eq_getElem (by omega)))
  have e3 := fieldk (off := 7) c3 e3
  have c4 : Try.prog.cellsOf 3 = 1 := by kernel_rfl
  obtain ⟨n4, e4, w4⟩ := (opens_int Try.underlying3) _ _ _ ((hf 4 _ rfl).trans (List.getElem?_eq_getElem (by omega))) (light_field Try.underlying72 hlt (j := 4) rfl (List.getElem?_eq_getElem (by omega)))
  have e4 := fieldk (off := 8) c4 e4
  have c5 : Try.prog.cellsOf 2 = 1 := by kernel_rfl
  obtain ⟨n5, e5, w5⟩ := (opens_int Try.underlying2) _ _ _ ((hf 5 _ rfl).trans (List.getElem?_eq_getElem (by omega))) (light_field Try.underlying72 hlt (j := 5) rfl (List.getElem?_eq_getElem (by omega)))
  have e5 := fieldk (off := 9) c5 e5
  have c6 : Try.prog.cellsOf 62 = 3 := by kernel_rfl
  obtain ⟨n6, e6, w6⟩ := opens_Vv _ _ _ ((hf 6 _ rfl).trans (List.getElem?_eq_getElem (by omega))) (light_field Try.underlying72 hlt (j := 6) rfl (List.getElem?_eq_getElem (by omega)))
  have e6 := fieldk (off := 10) c6 e6
  have c7 : Try.prog.cellsOf 4 = 1 := by kernel_rfl
  obtain ⟨n7, e7, w7⟩ := (opens_bool Try.underlying4) _ _ _ ((hf 7 _ rfl).trans (List.getElem?_eq_getElem (by omega))) (light_field Try.underlying72 hlt (j := 7) rfl (List.getElem?_eq_getElem (by omega)))
  have e7 := fieldk (off := 13) c7 e7
  have c8 : Try.prog.cellsOf 3 = 1 := by kernel_rfl
  obtain ⟨n8, e8, w8⟩ := (opens_int Try.underlying3) _ _ _ ((hf 8 _ rfl).trans (List.getElem?_eq_getElem (by omega))) (light_field Try.underlying72 hlt (j := 8) rfl (List.getElem?_eq_getElem (by omega)))
  have e8 := fieldk (off := 14) c8 e8
  match cs, hlen with
  | [v0, v1, v2, v3, v4, v5, v6, v7, v8, v9, v10, v11, v12, v13, v14], _ =>
    simp [Rg.cells, Vv.cells] at e0 e1 e2 e3 e4 e5 e6 e7 e8
    subst e0
    obtain ⟨rfl, rfl, rfl⟩ := e1
    obtain ⟨rfl, rfl, rfl⟩ := e2
    subst e3
    subst e4
    subst e5
    obtain ⟨rfl, rfl, rfl⟩ := e6
    subst e7
    subst e8
    exact ⟨⟨n0, n1, n2, n3, n4, n5, n6, n7, n8⟩, rfl, ⟨wf_i64 w0, w1, w2, wf_i64 w3, wf_i64 w4, wf_i64 w5, w6, wf_i64 w8⟩⟩
set_option maxRecDepth 20000 in
theorem opens_LnR : OpensAs enc Try.prog W 25 LnR.cells (LnR.ok W) := fun n cs y h hlt => by
  obtain ⟨xs, k, rfl, rfl, hlen, hxl, hf⟩ := DataW.trod_struct Try.underlying25 h
  have hlen : cs.length = 2 := hlen.trans (by kernel_rfl)
  have hxl : xs.length = 2 := hxl
  have c0 : Try.prog.cellsOf 9 = 1 := by kernel_rfl
  obtain ⟨n0, e0, w0⟩ := (opens_str Try.underlying9) _ _ _ ((hf 0 _ rfl).trans (List.getElem?_eq_getElem (by omega))) (light_field Try.underlying25 hlt (j := 0) rfl (List.getElem?_eq_getElem (by omega)))
  have e0 := fieldk (off := 0) c0 e0
  have c1 : Try.prog.cellsOf 23 = 1 := by kernel_rfl
  obtain ⟨n1, e1, w1⟩ := (opens_sl (k := 15) (bytes := 120) Try.underlying23 (by kernel_rfl) (by kernel_rfl) (by decide) (fun _ => rfl) opens_Oc) _ _ _ ((hf 1 _ rfl).trans (List.getElem?_eq_getElem (by omega))) (light_field Try.underlying25 hlt (j := 1) rfl (List.getElem?_eq_getElem (by omega)))
  have e1 := fieldk (off := 1) c1 e1
  match cs, hlen with
  | [v0, v1], _ =>
    simp at e0 e1
    subst e0
    subst e1
    exact ⟨⟨n0, n1⟩, rfl, ⟨w0, w1⟩⟩
set_option maxRecDepth 20000 in
theorem opens_StR : OpensAs enc Try.prog W 57 StR.cells (StR.ok W) := fun n cs y h hlt => by
  obtain ⟨xs, k, rfl, rfl, hlen, hxl, hf⟩ := DataW.trod_struct Try.underlying57 h
  have hlen : cs.length = 8 := hlen.trans (by kernel_rfl)
  have hxl : xs.length = 7 := hxl
  have c0 : Try.prog.cellsOf 53 = 1 := by kernel_rfl
  obtain ⟨n0, e0, w0⟩ := opens_strs _ _ _ ((hf 0 _ rfl).trans (List.getElem?_eq_getElem (by omega))) (light_field Try.underlying57 hlt (j := 0) rfl (List.getElem?_eq_getElem (by omega)))
  have e0 := fieldk (off := 0) c0 e0
  have c1 : Try.prog.cellsOf 3 = 1 := by kernel_rfl
  obtain ⟨n1, e1, w1⟩ := (opens_int Try.underlying3) _ _ _ ((hf 1 _ rfl).trans (List.getElem?_eq_getElem (by omega))) (light_field Try.underlying57 hlt (j := 1) rfl (List.getElem?_eq_getElem (by omega)))
  have e1 := fieldk (off := 1) c1 e1
  have c2 : Try.prog.cellsOf 25 = 2 := by kernel_rfl
  obtain ⟨n2, e2, w2⟩ := opens_LnR _ _ _ ((hf 2 _ rfl).trans (List.getElem?_eq_getElem (by omega))) (light_field Try.underlying57 hlt (j := 2) rfl (List.getElem?_eq_getElem (by omega)))
  have e2 := fieldk (off := 2) c2 e2
  have c3 : Try.prog.cellsOf 53 = 1 := by kernel_rfl
  obtain ⟨n3, e3, w3⟩ := opens_strs _ _ _ ((hf 3 _ rfl).trans (List.getElem?_eq_getElem (by omega))) (light_field Try.underlying57 hlt (j := 3) rfl (List.getElem?_eq_getElem (by omega)))
  have e3 := fieldk (off := 4) c3 e3
  have c4 : Try.prog.cellsOf 3 = 1 := by kernel_rfl
  obtain ⟨n4, e4, w4⟩ := (opens_int Try.underlying3) _ _ _ ((hf 4 _ rfl).trans (List.getElem?_eq_getElem (by omega))) (light_field Try.underlying57 hlt (j := 4) rfl (List.getElem?_eq_getElem (by omega)))
  have e4 := fieldk (off := 5) c4 e4
  have c5 : Try.prog.cellsOf 54 = 1 := by kernel_rfl
  obtain ⟨n5, e5, w5⟩ := (opens_sl (k := 3) (bytes := 40) Try.underlying54 (by kernel_rfl) (by kernel_rfl) (by decide) (fun _ => rfl) opens_Vv) _ _ _ ((hf 5 _ rfl).trans (List.getElem?_eq_getElem (by omega))) (light_field Try.underlying57 hlt (j := 5) rfl (List.getElem?_eq_getElem (by omega)))
  have e5 := fieldk (off := 6) c5 e5
  have c6 : Try.prog.cellsOf 55 = 1 := by kernel_rfl
  obtain ⟨n6, e6, w6⟩ := opens_bytes _ _ _ ((hf 6 _ rfl).trans (List.getElem?_eq_getElem (by omega))) (light_field Try.underlying57 hlt (j := 6) rfl (List.getElem?_eq_getElem (by omega)))
  have e6 := fieldk (off := 7) c6 e6
  match cs, hlen with
  | [v0, v1, v2, v3, v4, v5, v6, v7], _ =>
    simp [LnR.cells] at e0 e1 e2 e3 e4 e5 e6
    subst e0
    subst e1
    obtain ⟨rfl, rfl⟩ := e2
    subst e3
    subst e4
    subst e5
    subst e6
    exact ⟨⟨n0, n1, n2, n3, n4, n5, n6⟩, rfl, ⟨w0, wf_i64 w1, w2, w3, wf_i64 w4, w5, w6⟩⟩
set_option maxRecDepth 20000 in
theorem opens_RwR : OpensAs enc Try.prog W 59 RwR.cells (RwR.ok W) := fun n cs y h hlt => by
  obtain ⟨xs, k, rfl, rfl, hlen, hxl, hf⟩ := DataW.trod_struct Try.underlying59 h
  have hlen : cs.length = 9 := hlen.trans (by kernel_rfl)
  have hxl : xs.length = 2 := hxl
  have c0 : Try.prog.cellsOf 3 = 1 := by kernel_rfl
  obtain ⟨n0, e0, w0⟩ := (opens_int Try.underlying3) _ _ _ ((hf 0 _ rfl).trans (List.getElem?_eq_getElem (by omega))) (light_field Try.underlying59 hlt (j := 0) rfl (List.getElem?_eq_getElem (by omega)))
  have e0 := fieldk (off := 0) c0 e0
  have c1 : Try.prog.cellsOf 57 = 8 := by kernel_rfl
  obtain ⟨n1, e1, w1⟩ := opens_StR _ _ _ ((hf 1 _ rfl).trans (List.getElem?_eq_getElem (by omega))) (light_field Try.underlying59 hlt (j := 1) rfl (List.getElem?_eq_getElem (by omega)))
  have e1 := fieldk (off := 1) c1 e1
  match cs, hlen with
  | [v0, v1, v2, v3, v4, v5, v6, v7, v8], _ =>
    simp [StR.cells] at e0 e1
    subst e0
    obtain ⟨rfl, rfl, rfl, rfl, rfl, rfl, rfl, rfl⟩ := e1
    exact ⟨⟨n0, n1⟩, rfl, ⟨wf_i64 w0, w1⟩⟩
set_option maxRecDepth 20000 in
theorem opens_PcR : OpensAs enc Try.prog W 64 PcR.cells (PcR.ok W) := fun n cs y h hlt => by
  obtain ⟨xs, k, rfl, rfl, hlen, hxl, hf⟩ := DataW.trod_struct Try.underlying64 h
  have hlen : cs.length = 11 := hlen.trans (by kernel_rfl)
  have hxl : xs.length = 8 := hxl
  have c0 : Try.prog.cellsOf 3 = 1 := by kernel_rfl
  obtain ⟨n0, e0, w0⟩ := (opens_int Try.underlying3) _ _ _ ((hf 0 _ rfl).trans (List.getElem?_eq_getElem (by omega))) (light_field Try.underlying64 hlt (j := 0) rfl (List.getElem?_eq_getElem (by omega)))
  have e0 := fieldk (off := 0) c0 e0
  have c1 : Try.prog.cellsOf 3 = 1 := by kernel_rfl
  obtain ⟨n1, e1, w1⟩ := (opens_int Try.underlying3) _ _ _ ((hf 1 _ rfl).trans (List.getElem?_eq_getElem (by omega))) (light_field Try.underlying64 hlt (j := 1) rfl (List.getElem?_eq_getElem (by omega)))
  have e1 := fieldk (off := 1) c1 e1
  have c2 : Try.prog.cellsOf 3 = 1 := by kernel_rfl
  obtain ⟨n2, e2, w2⟩ := (opens_int Try.underlying3) _ _ _ ((hf 2 _ rfl).trans (List.getElem?_eq_getElem (by omega))) (light_field Try.underlying64 hlt (j := 2) rfl (List.getElem?_eq_getElem (by omega)))
  have e2 := fieldk (off := 2) c2 e2
  have c3 : Try.prog.cellsOf 25 = 2 := by kernel_rfl
  obtain ⟨n3, e3, w3⟩ := opens_LnR _ _ _ ((hf 3 _ rfl).trans (List.getElem?_eq_getElem (by omega))) (light_field Try.underlying64 hlt (j := 3) rfl (List.getElem?_eq_getElem (by omega)))
  have e3 := fieldk (off := 3) c3 e3
  have c4 : Try.prog.cellsOf 62 = 3 := by kernel_rfl
  obtain ⟨n4, e4, w4⟩ := opens_Vv _ _ _ ((hf 4 _ rfl).trans (List.getElem?_eq_getElem (by omega))) (light_field Try.underlying64 hlt (j := 4) rfl (List.getElem?_eq_getElem (by omega)))
  have e4 := fieldk (off := 5) c4 e4
  have c5 : Try.prog.cellsOf 3 = 1 := by kernel_rfl
  obtain ⟨n5, e5, w5⟩ := (opens_int Try.underlying3) _ _ _ ((hf 5 _ rfl).trans (List.getElem?_eq_getElem (by omega))) (light_field Try.underlying64 hlt (j := 5) rfl (List.getElem?_eq_getElem (by omega)))
  have e5 := fieldk (off := 8) c5 e5
  have c6 : Try.prog.cellsOf 55 = 1 := by kernel_rfl
  obtain ⟨n6, e6, w6⟩ := opens_bytes _ _ _ ((hf 6 _ rfl).trans (List.getElem?_eq_getElem (by omega))) (light_field Try.underlying64 hlt (j := 6) rfl (List.getElem?_eq_getElem (by omega)))
  have e6 := fieldk (off := 9) c6 e6
  have c7 : Try.prog.cellsOf 3 = 1 := by kernel_rfl
  obtain ⟨n7, e7, w7⟩ := (opens_int Try.underlying3) _ _ _ ((hf 7 _ rfl).trans (List.getElem?_eq_getElem (by omega))) (light_field Try.underlying64 hlt (j := 7) rfl (List.getElem?_eq_getElem (by omega)))
  have e7 := fieldk (off := 10) c7 e7
  match cs, hlen with
  | [v0, v1, v2, v3, v4, v5, v6, v7, v8, v9, v10], _ =>
    simp [LnR.cells, Vv.cells] at e0 e1 e2 e3 e4 e5 e6 e7
    subst e0
    subst e1
    subst e2
    obtain ⟨rfl, rfl⟩ := e3
    obtain ⟨rfl, rfl, rfl⟩ := e4
    subst e5
    subst e6
    subst e7
    exact ⟨⟨n0, n1, n2, n3, n4, n5, n6, n7⟩, rfl, ⟨wf_i64 w0, wf_i64 w1, wf_i64 w2, w3, w4, wf_i64 w5, w6, wf_i64 w7⟩⟩
set_option maxRecDepth 20000 in
theorem opens_PtR : OpensAs enc Try.prog W 50 PtR.cells (PtR.ok W) := fun n cs y h hlt => by
  obtain ⟨xs, k, rfl, rfl, hlen, hxl, hf⟩ := DataW.trod_struct Try.underlying50 h
  have hlen : cs.length = 4 := hlen.trans (by kernel_rfl)
  have hxl : xs.length = 4 := hxl
  have c0 : Try.prog.cellsOf 9 = 1 := by kernel_rfl
  obtain ⟨n0, e0, w0⟩ := (opens_str Try.underlying9) _ _ _ ((hf 0 _ rfl).trans (List.getElem?_eq_getElem (by omega))) (light_field Try.underlying50 hlt (j := 0) rfl (List.getElem?_eq_getElem (by omega)))
  have e0 := fieldk (off := 0) c0 e0
  have c1 : Try.prog.cellsOf 3 = 1 := by kernel_rfl
  obtain ⟨n1, e1, w1⟩ := (opens_int Try.underlying3) _ _ _ ((hf 1 _ rfl).trans (List.getElem?_eq_getElem (by omega))) (light_field Try.underlying50 hlt (j := 1) rfl (List.getElem?_eq_getElem (by omega)))
  have e1 := fieldk (off := 1) c1 e1
  have c2 : Try.prog.cellsOf 3 = 1 := by kernel_rfl
  obtain ⟨n2, e2, w2⟩ := (opens_int Try.underlying3) _ _ _ ((hf 2 _ rfl).trans (List.getElem?_eq_getElem (by omega))) (light_field Try.underlying50 hlt (j := 2) rfl (List.getElem?_eq_getElem (by omega)))
  have e2 := fieldk (off := 2) c2 e2
  have c3 : Try.prog.cellsOf 48 = 1 := by kernel_rfl
  obtain ⟨n3, e3, w3⟩ := (opens_sl (k := 11) (bytes := 144) Try.underlying48 (by kernel_rfl) (by kernel_rfl) (by decide) (fun _ => rfl) opens_PcR) _ _ _ ((hf 3 _ rfl).trans (List.getElem?_eq_getElem (by omega))) (light_field Try.underlying50 hlt (j := 3) rfl (List.getElem?_eq_getElem (by omega)))
  have e3 := fieldk (off := 3) c3 e3
  match cs, hlen with
  | [v0, v1, v2, v3], _ =>
    simp at e0 e1 e2 e3
    subst e0
    subst e1
    subst e2
    subst e3
    exact ⟨⟨n0, n1, n2, n3⟩, rfl, ⟨w0, wf_i64 w1, wf_i64 w2, w3⟩⟩
set_option maxRecDepth 20000 in
theorem opens_Mk : OpensAs enc Try.prog W 81 Mk.cells Mk.ok := fun n cs y h hlt => by
  obtain ⟨xs, k, rfl, rfl, hlen, hxl, hf⟩ := DataW.trod_struct Try.underlying81 h
  have hlen : cs.length = 9 := hlen.trans (by kernel_rfl)
  have hxl : xs.length = 7 := hxl
  have c0 : Try.prog.cellsOf 9 = 1 := by kernel_rfl
  obtain ⟨n0, e0, w0⟩ := (opens_str Try.underlying9) _ _ _ ((hf 0 _ rfl).trans (List.getElem?_eq_getElem (by omega))) (light_field Try.underlying81 hlt (j := 0) rfl (List.getElem?_eq_getElem (by omega)))
  have e0 := fieldk (off := 0) c0 e0
  have c1 : Try.prog.cellsOf 3 = 1 := by kernel_rfl
  obtain ⟨n1, e1, w1⟩ := (opens_int Try.underlying3) _ _ _ ((hf 1 _ rfl).trans (List.getElem?_eq_getElem (by omega))) (light_field Try.underlying81 hlt (j := 1) rfl (List.getElem?_eq_getElem (by omega)))
  have e1 := fieldk (off := 1) c1 e1
  have c2 : Try.prog.cellsOf 3 = 1 := by kernel_rfl
  obtain ⟨n2, e2, w2⟩ := (opens_int Try.underlying3) _ _ _ ((hf 2 _ rfl).trans (List.getElem?_eq_getElem (by omega))) (light_field Try.underlying81 hlt (j := 2) rfl (List.getElem?_eq_getElem (by omega)))
  have e2 := fieldk (off := 2) c2 e2
  have c3 : Try.prog.cellsOf 3 = 1 := by kernel_rfl
  obtain ⟨n3, e3, w3⟩ := (opens_int Try.underlying3) _ _ _ ((hf 3 _ rfl).trans (List.getElem?_eq_getElem (by omega))) (light_field Try.underlying81 hlt (j := 3) rfl (List.getElem?_eq_getElem (by omega)))
  have e3 := fieldk (off := 3) c3 e3
  have c4 : Try.prog.cellsOf 3 = 1 := by kernel_rfl
  obtain ⟨n4, e4, w4⟩ := (opens_int Try.underlying3) _ _ _ ((hf 4 _ rfl).trans (List.getElem?_eq_getElem (by omega))) (light_field Try.underlying81 hlt (j := 4) rfl (List.getElem?_eq_getElem (by omega)))
  have e4 := fieldk (off := 4) c4 e4
  have c5 : Try.prog.cellsOf 4 = 1 := by kernel_rfl
  obtain ⟨n5, e5, w5⟩ := (opens_bool Try.underlying4) _ _ _ ((hf 5 _ rfl).trans (List.getElem?_eq_getElem (by omega))) (light_field Try.underlying81 hlt (j := 5) rfl (List.getElem?_eq_getElem (by omega)))
  have e5 := fieldk (off := 5) c5 e5
  have c6 : Try.prog.cellsOf 62 = 3 := by kernel_rfl
  obtain ⟨n6, e6, w6⟩ := opens_Vv _ _ _ ((hf 6 _ rfl).trans (List.getElem?_eq_getElem (by omega))) (light_field Try.underlying81 hlt (j := 6) rfl (List.getElem?_eq_getElem (by omega)))
  have e6 := fieldk (off := 6) c6 e6
  match cs, hlen with
  | [v0, v1, v2, v3, v4, v5, v6, v7, v8], _ =>
    simp [Vv.cells] at e0 e1 e2 e3 e4 e5 e6
    subst e0
    subst e1
    subst e2
    subst e3
    subst e4
    subst e5
    obtain ⟨rfl, rfl, rfl⟩ := e6
    exact ⟨⟨n0, n1, n2, n3, n4, n5, n6⟩, rfl, ⟨w0, wf_i64 w1, wf_i64 w2, wf_i64 w3, wf_i64 w4, w6⟩⟩
set_option maxRecDepth 20000 in
theorem opens_Td : OpensAs enc Try.prog W 90 Td.cells Td.ok := fun n cs y h hlt => by
  obtain ⟨xs, k, rfl, rfl, hlen, hxl, hf⟩ := DataW.trod_struct Try.underlying90 h
  have hlen : cs.length = 3 := hlen.trans (by kernel_rfl)
  have hxl : xs.length = 3 := hxl
  have c0 : Try.prog.cellsOf 9 = 1 := by kernel_rfl
  obtain ⟨n0, e0, w0⟩ := (opens_str Try.underlying9) _ _ _ ((hf 0 _ rfl).trans (List.getElem?_eq_getElem (by omega))) (light_field Try.underlying90 hlt (j := 0) rfl (List.getElem?_eq_getElem (by omega)))
  have e0 := fieldk (off := 0) c0 e0
  have c1 : Try.prog.cellsOf 3 = 1 := by kernel_rfl
  obtain ⟨n1, e1, w1⟩ := (opens_int Try.underlying3) _ _ _ ((hf 1 _ rfl).trans (List.getElem?_eq_getElem (by omega))) (light_field Try.underlying90 hlt (j := 1) rfl (List.getElem?_eq_getElem (by omega)))
  have e1 := fieldk (off := 1) c1 e1
  have c2 : Try.prog.cellsOf 3 = 1 := by kernel_rfl
  obtain ⟨n2, e2, w2⟩ := (opens_int Try.underlying3) _ _ _ ((hf 2 _ rfl).trans (List.getElem?_eq_getElem (by omega))) (light_field Try.underlying90 hlt (j := 2) rfl (List.getElem?_eq_getElem (by omega)))
  have e2 := fieldk (off := 2) c2 e2
  match cs, hlen with
  | [v0, v1, v2], _ =>
    simp at e0 e1 e2
    subst e0
    subst e1
    subst e2
    exact ⟨⟨n0, n1, n2⟩, rfl, ⟨w0, wf_i64 w1, wf_i64 w2⟩⟩
set_option maxRecDepth 20000 in
theorem opens_UnR : OpensAs enc Try.prog W 32 UnR.cells (UnR.ok W) := fun n cs y h hlt => by
  obtain ⟨xs, k, rfl, rfl, hlen, hxl, hf⟩ := DataW.trod_struct Try.underlying32 h
  have hlen : cs.length = 3 := hlen.trans (by kernel_rfl)
  have hxl : xs.length = 3 := hxl
  have c0 : Try.prog.cellsOf 28 = 1 := by kernel_rfl
  obtain ⟨n0, e0, w0⟩ := (opens_sl (k := 4) (bytes := 56) Try.underlying28 (by kernel_rfl) (by kernel_rfl) (by decide) (fun _ => rfl) opens_PtR) _ _ _ ((hf 0 _ rfl).trans (List.getElem?_eq_getElem (by omega))) (light_field Try.underlying32 hlt (j := 0) rfl (List.getElem?_eq_getElem (by omega)))
  have e0 := fieldk (off := 0) c0 e0
  have c1 : Try.prog.cellsOf 29 = 1 := by kernel_rfl
  obtain ⟨n1, e1, w1⟩ := (opens_sl (k := 9) (bytes := 96) Try.underlying29 (by kernel_rfl) (by kernel_rfl) (by decide) (fun _ => rfl) opens_Mk) _ _ _ ((hf 1 _ rfl).trans (List.getElem?_eq_getElem (by omega))) (light_field Try.underlying32 hlt (j := 1) rfl (List.getElem?_eq_getElem (by omega)))
  have e1 := fieldk (off := 1) c1 e1
  have c2 : Try.prog.cellsOf 30 = 1 := by kernel_rfl
  obtain ⟨n2, e2, w2⟩ := (opens_sl (k := 3) (bytes := 32) Try.underlying30 (by kernel_rfl) (by kernel_rfl) (by decide) (fun _ => rfl) opens_Td) _ _ _ ((hf 2 _ rfl).trans (List.getElem?_eq_getElem (by omega))) (light_field Try.underlying32 hlt (j := 2) rfl (List.getElem?_eq_getElem (by omega)))
  have e2 := fieldk (off := 2) c2 e2
  match cs, hlen with
  | [v0, v1, v2], _ =>
    simp at e0 e1 e2
    subst e0
    subst e1
    subst e2
    exact ⟨⟨n0, n1, n2⟩, rfl, ⟨w0, w1, w2⟩⟩
end
end Go.Proofs.Ythlingholhjcnaa
namespace Go.Proofs.Ythlingholhjcnaa
open Go.RowKit Go.ChangeShapes Go.WideShapes Go.ChangeAt

section
variable {H : Type} {enc : TypeId × Value → H} {W : World}
theorem ones_sum {α : Type} (l : List α) : (l.map (fun _ => 1)).sum = l.length := by
  rw [List.map_const', List.sum_replicate_nat, Nat.mul_one]
/-- A slice of what opens, in our words. -/
theorem opens_slB {P : Program} {α : Type} {f : α → List Value} {ok : α → Prop} {m₀ : α → Nat} {t e : TypeId} {k bytes : Nat} (ht : P.underlying t = some (.slice e)) (hc : P.cellsOf e = k) (hb : P.bytesOf e = bytes) (hk0 : 0 < k) (hk : ∀ x, (f x).length = k) (hel : OpensIn enc P W e f ok m₀) :
    OpensIn enc P W t (fun s : Sl α => [s.val]) (fun s => SlOk W f bytes s ∧ ∀ y ∈ s.l, ok y) (fun s => (s.l.map m₀).sum) := fun n cs y h hlt => by
  obtain ⟨⟨p, c, l⟩, e, ⟨h1, h2, h3, h4, h5, h6⟩, h7⟩ := opens_sliceB ht hc hk0 hk hel n cs y h hlt
  exact ⟨⟨p, c, l⟩, e, ⟨⟨h4, h1, by rw [← hb]; exact Nat.le_trans (Nat.mul_le_mul_right _ h1) h6, h3⟩, h5⟩, h7⟩
theorem opens_strsB : OpensIn enc Try.prog W 53 (fun s : Sl ByteArray => [s.val]) (fun s => SlOk W (fun s : ByteArray => [Value.string s]) 16 s ∧ ∀ y ∈ s.l, y.size ≤ 140737488351232) (fun s => (s.l.map (fun _ => 1)).sum) :=
  opens_slB Try.underlying53 (by kernel_rfl) (by kernel_rfl) (by decide) (fun _ => rfl) (opens_str Try.underlying9).one
set_option maxRecDepth 20000 in
theorem opens_StB : OpensIn enc Try.prog W 57 StR.cells (StR.ok W) (fun s => s.labels.l.length + s.cost) := fun n cs y h hlt => by
  obtain ⟨xs, k, rfl, rfl, hlen, hxl, hf⟩ := DataW.trod_struct Try.underlying57 h
  have hlen : cs.length = 8 := hlen.trans (by kernel_rfl)
  have hxl : xs.length = 7 := hxl
  obtain ⟨x0, x1, x2, x3, x4, x5, x6, rfl⟩ : ∃ x0 x1 x2 x3 x4 x5 x6, xs = [x0, x1, x2, x3, x4, x5, x6] := by
    match xs, hxl with
    | [x0, x1, x2, x3, x4, x5, x6], _ => exact ⟨x0, x1, x2, x3, x4, x5, x6, rfl⟩
  have c0 : Try.prog.cellsOf 53 = 1 := by kernel_rfl
  obtain ⟨n0, e0, w0, m0⟩ := opens_strsB _ _ _ ((hf 0 _ rfl).trans (List.getElem?_eq_getElem (by omega))) (light_field Try.underlying57 hlt (j := 0) rfl (List.getElem?_eq_getElem (by omega)))
  replace e0 := fieldk (off := 0) c0 e0
  have c1 : Try.prog.cellsOf 3 = 1 := by kernel_rfl
  obtain ⟨n1, e1, w1⟩ := (opens_int Try.underlying3) _ _ _ ((hf 1 _ rfl).trans (List.getElem?_eq_getElem (by omega))) (light_field Try.underlying57 hlt (j := 1) rfl (List.getElem?_eq_getElem (by omega)))
  replace e1 := fieldk (off := 1) c1 e1
  have c2 : Try.prog.cellsOf 25 = 2 := by kernel_rfl
  obtain ⟨n2, e2, w2⟩ := opens_LnR _ _ _ ((hf 2 _ rfl).trans (List.getElem?_eq_getElem (by omega))) (light_field Try.underlying57 hlt (j := 2) rfl (List.getElem?_eq_getElem (by omega)))
  replace e2 := fieldk (off := 2) c2 e2
  have c3 : Try.prog.cellsOf 53 = 1 := by kernel_rfl
  obtain ⟨n3, e3, w3, m3⟩ := opens_strsB _ _ _ ((hf 3 _ rfl).trans (List.getElem?_eq_getElem (by omega))) (light_field Try.underlying57 hlt (j := 3) rfl (List.getElem?_eq_getElem (by omega)))
  replace e3 := fieldk (off := 4) c3 e3
  have c4 : Try.prog.cellsOf 3 = 1 := by kernel_rfl
  obtain ⟨n4, e4, w4⟩ := (opens_int Try.underlying3) _ _ _ ((hf 4 _ rfl).trans (List.getElem?_eq_getElem (by omega))) (light_field Try.underlying57 hlt (j := 4) rfl (List.getElem?_eq_getElem (by omega)))
  replace e4 := fieldk (off := 5) c4 e4
  have c5 : Try.prog.cellsOf 54 = 1 := by kernel_rfl
  obtain ⟨n5, e5, w5, m5⟩ := (opens_slB (k := 3) (bytes := 40) Try.underlying54 (by kernel_rfl) (by kernel_rfl) (by decide) (fun _ => rfl) opens_Vv.one) _ _ _ ((hf 5 _ rfl).trans (List.getElem?_eq_getElem (by omega))) (light_field Try.underlying57 hlt (j := 5) rfl (List.getElem?_eq_getElem (by omega)))
  replace e5 := fieldk (off := 6) c5 e5
  have c6 : Try.prog.cellsOf 55 = 1 := by kernel_rfl
  obtain ⟨n6, e6, w6⟩ := opens_bytes _ _ _ ((hf 6 _ rfl).trans (List.getElem?_eq_getElem (by omega))) (light_field Try.underlying57 hlt (j := 6) rfl (List.getElem?_eq_getElem (by omega)))
  replace e6 := fieldk (off := 7) c6 e6
  obtain ⟨v0, v1, v2, v3, v4, v5, v6, v7, rfl⟩ : ∃ v0 v1 v2 v3 v4 v5 v6 v7, cs = [v0, v1, v2, v3, v4, v5, v6, v7] := by
    match cs, hlen with
    | [v0, v1, v2, v3, v4, v5, v6, v7], _ => exact ⟨v0, v1, v2, v3, v4, v5, v6, v7, rfl⟩
  simp [LnR.cells] at e0 e1 e2 e3 e4 e5 e6
  subst e0
  subst e1
  obtain ⟨rfl, rfl⟩ := e2
  subst e3
  subst e4
  subst e5
  subst e6
  exact ⟨⟨n0, n1, n2, n3, n4, n5, n6⟩, rfl, ⟨w0, wf_i64 w1, w2, w3, wf_i64 w4, w5, w6⟩, by (dsimp only at m0 m3 m5; rw [ones_sum] at m0 m3 m5; simp [Rows.uptoBulk, Rows.uptoBulkAll, StR.cost] at m0 m3 m5 ⊢; omega)⟩
set_option maxRecDepth 20000 in
theorem opens_RwB : OpensIn enc Try.prog W 59 RwR.cells (RwR.ok W) RwR.cost := fun n cs y h hlt => by
  obtain ⟨xs, k, rfl, rfl, hlen, hxl, hf⟩ := DataW.trod_struct Try.underlying59 h
  have hlen : cs.length = 9 := hlen.trans (by kernel_rfl)
  have hxl : xs.length = 2 := hxl
  obtain ⟨x0, x1, rfl⟩ : ∃ x0 x1, xs = [x0, x1] := by
    match xs, hxl with
    | [x0, x1], _ => exact ⟨x0, x1, rfl⟩
  have c0 : Try.prog.cellsOf 3 = 1 := by kernel_rfl
  obtain ⟨n0, e0, w0⟩ := (opens_int Try.underlying3) _ _ _ ((hf 0 _ rfl).trans (List.getElem?_eq_getElem (by omega))) (light_field Try.underlying59 hlt (j := 0) rfl (List.getElem?_eq_getElem (by omega)))
  replace e0 := fieldk (off := 0) c0 e0
  have c1 : Try.prog.cellsOf 57 = 8 := by kernel_rfl
  obtain ⟨n1, e1, w1, m1⟩ := opens_StB _ _ _ ((hf 1 _ rfl).trans (List.getElem?_eq_getElem (by omega))) (light_field Try.underlying59 hlt (j := 1) rfl (List.getElem?_eq_getElem (by omega)))
  replace e1 := fieldk (off := 1) c1 e1
  obtain ⟨v0, v1, v2, v3, v4, v5, v6, v7, v8, rfl⟩ : ∃ v0 v1 v2 v3 v4 v5 v6 v7 v8, cs = [v0, v1, v2, v3, v4, v5, v6, v7, v8] := by
    match cs, hlen with
    | [v0, v1, v2, v3, v4, v5, v6, v7, v8], _ => exact ⟨v0, v1, v2, v3, v4, v5, v6, v7, v8, rfl⟩
  simp [StR.cells] at e0 e1
  subst e0
  obtain ⟨rfl, rfl, rfl, rfl, rfl, rfl, rfl, rfl⟩ := e1
  exact ⟨⟨n0, n1⟩, rfl, ⟨wf_i64 w0, w1⟩, by (dsimp only at m1; simp [Rows.uptoBulk, Rows.uptoBulkAll, RwR.cost] at m1 ⊢; omega)⟩
theorem opens_rowsB : OpensIn enc Try.prog W 22 (fun s : Sl RwR => [s.val]) (fun s => SlOk W RwR.cells (Try.prog.bytesOf 59) s ∧ ∀ y ∈ s.l, y.ok W) (fun s => costs s.l) :=
  opens_slB (k := 9) Try.underlying22 (by kernel_rfl) rfl (by decide) (fun _ => rfl) opens_RwB
end
end Go.Proofs.Ythlingholhjcnaa
