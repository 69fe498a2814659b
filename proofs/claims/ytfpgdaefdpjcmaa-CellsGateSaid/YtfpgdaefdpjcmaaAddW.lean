/-
  The walk of CellsAdd, for whatever comes in.
-/
import Derived.Test.YtfpgdaefdpjcmaaAdd
namespace Go.Proofs.Ytfpgdaefdpjcmaa
open Go.RowKit

theorem wf_u8 {n : Int} (h : (Lit.int .u8 n).wf = true) : 0 ≤ n ∧ n ≤ 255 := by
  simp [Lit.wf, IntKind.min, IntKind.max, IntKind.bits, IntKind.signed] at h
  omega

theorem add_walk (w : World) (n : Int) (_ : (Lit.int .i64 n).wf = true) (o : Option Addr) (c : Nat) (vs : List Int)
    (ok : vs.length ≤ c ∧ c ≤ maxLen ∧ (o = none → c = 0) ∧ Row w o (vs.map (Value.int .i64)) ∧ (∀ n ∈ vs, (Lit.int .i64 n).wf = true) ∧ c * Try.prog.bytesOf 2 ≤ 140737488351232) (t : Int) (ht : (Lit.int .u8 t).wf = true) :
    Calls Try.prog 8 #[i64 n, .slice o vs.length c, .int .u8 t] w fun e w' => e = .returned (.bool true) ∧ Below w.heap.size w w' := by
  obtain ⟨h1, h2, _, h4, _, _⟩ := ok
  obtain ⟨t0, t1⟩ := wf_u8 ht
  by_cases hl : vs.length ≤ 300
  · exact add_core w n o c vs.length vs h1 h2 h4 t t0 t1 (.inl ⟨rfl, hl⟩)
  · exact add_core w n o c 300 vs h1 h2 h4 t t0 t1 (.inr ⟨rfl, by omega⟩)
end Go.Proofs.Ytfpgdaefdpjcmaa
