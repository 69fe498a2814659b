/-
  Operations as they come in.
-/
import Derived.Test.YtpgdpddmgljpmaaOpenG
import Derived.Test.YtpgdpddmgljpmaaD16
import Derived.Test.YtpgdpddmgljpmaaChecked
import Derived.Test.YtpgdpddmgljpmaaRows
namespace Go.Proofs.Ytpgdpddmgljpmaa
open Go.RowKit Go.ChangeShapes Go.WideShapes Go.ChangeAt

def inI64 (n : Int) : Prop := -9223372036854775808 ≤ n ∧ n ≤ 9223372036854775807
theorem wf_i64 {n : Int} (h : (Lit.int .i64 n).wf = true) : inI64 n := by
  simp [Lit.wf, IntKind.min, IntKind.max, IntKind.bits, IntKind.signed] at h
  simp only [inI64]
  omega
section
variable {H : Type} {enc : TypeId × Value → H} {W : World}
theorem fieldk {ty : TypeId} {off m : Nat} {cs l : List Value} (hc : Try.prog.cellsOf ty = m) (e : List.take (Try.prog.cellsOf ty) (List.drop off cs) = l) : (cs.drop off).take m = l := by rw [← hc]; exact e
theorem opens_op : OpensAs enc Try.prog W 27 (fun o : Int × Int => [i64 o.1, i64 o.2]) (fun o => inI64 o.1 ∧ inI64 o.2) := fun n cs y h hlt => by
  obtain ⟨xs, k, rfl, rfl, hlen, hxl, hf⟩ := DataW.trod_struct Try.underlying27 h
  have hlen : cs.length = 2 := hlen.trans (by kernel_rfl)
  have hxl : xs.length = 2 := hxl
  have c2 : Try.prog.cellsOf 2 = 1 := by kernel_rfl
  have c3 : Try.prog.cellsOf 3 = 1 := by kernel_rfl
  obtain ⟨n0, e0, w0⟩ := opens_int Try.underlying3 _ _ _ ((hf 0 _ rfl).trans (List.getElem?_eq_getElem (by omega))) (light_field Try.underlying27 hlt (j := 0) rfl (List.getElem?_eq_getElem (by omega)))
  obtain ⟨n1, e1, w1⟩ := opens_int Try.underlying2 _ _ _ ((hf 1 _ rfl).trans (List.getElem?_eq_getElem (by omega))) (light_field Try.underlying27 hlt (j := 1) rfl (List.getElem?_eq_getElem (by omega)))
  have e0 := fieldk (off := 0) c3 e0
  have e1 := fieldk (off := 1) c2 e1
  match cs, hlen with
  | [v0, v1], _ =>
    simp at e0 e1
    subst e0 e1
    exact ⟨(n0, n1), rfl, wf_i64 w0, wf_i64 w1⟩
end
end Go.Proofs.Ytpgdpddmgljpmaa
