/-
  The walk of SchedEnds.
-/
import Derived.Test.YthmockfeffikjaaJE29
import Derived.Test.YthmockfeffikjaaJE1
namespace Go.Proofs.Ythmockfeffikjaa
open Go.RowKit Go.ChangeShapes Go.WideShapes Go.ChangeAt

theorem ends_more (w : World) (a0 : Int) (p : Option Addr) (c n : Nat) (hn : n ≤ c ∧ c ≤ maxLen) (q : Option Addr) (d m : Nat) (hm : m ≤ d ∧ d ≤ maxLen) (h : 20 < n ∨ 2000 < m) :
    Calls Try.prog 3 #[.int .u8 a0, .slice p n c, .slice q m d] w fun e w' => e = .returned (.bool true) ∧ Below w.heap.size w w' := by
  have HLV := hid live_any
  by_cases h1 : 20 < n
  · have h1I : 20 < (n : Int) := by omega
    go_enter Try.func3, Try.ntmps3
    go_wp2_with (go_at_call 9; (with_reducible refine (HLV.out _).mono ?_); rintro e w1 ⟨rfl, hb1⟩; have HB1 := hid hb1; clear hb1)
    go_ret
    exact ⟨rfl, HB1.out⟩
  · have h1I : ¬ (20 < (n : Int)) := by omega
    have h2I : 2000 < (m : Int) := by omega
    go_enter Try.func3, Try.ntmps3
    go_wp2_with (go_at_call 9; (with_reducible refine (HLV.out _).mono ?_); rintro e w1 ⟨rfl, hb1⟩; have HB1 := hid hb1; clear hb1)
    go_ret
    exact ⟨rfl, HB1.out⟩

section
variable {H : Type} {enc : TypeId × Value → H} {W : World}
theorem opens_ul : OpensAs enc Try.prog W 31 ulV (UlOk W) := fun n cs y h hlt => by
  obtain ⟨x, e, o⟩ := opens_intSlice Try.underlying31 Try.underlying5 (by kernel_rfl) 1 (by kernel_rfl) n cs y h hlt
  exact ⟨x, e, o.1, o.2.1, o.2.2.1, o.2.2.2.1, o.2.2.2.2.1⟩
theorem opens_uls : OpensAs enc Try.prog W 22 (fun z : Option Addr × Nat × List (Option Addr × Nat × List Int) => [Value.slice z.1 z.2.2.length z.2.1]) (fun z => z.2.2.length ≤ z.2.1 ∧ z.2.1 ≤ maxLen ∧ (z.1 = none → z.2.1 = 0) ∧ Row W z.1 (z.2.2.flatMap ulV) ∧ (∀ x ∈ z.2.2, UlOk W x) ∧ z.2.1 * Try.prog.bytesOf 31 ≤ 140737488351232) :=
  opens_slice (k := 1) Try.underlying22 (by kernel_rfl) (by decide) (fun _ => rfl) opens_ul
end
theorem ends_walk (w : World) (a0 : Int) (w0 : (Lit.int .u8 a0).wf = true) (p : Option Addr) (c : Nat) (xs : List (Option Addr × Nat × List Int)) (ok : xs.length ≤ c ∧ c ≤ maxLen ∧ (p = none → c = 0) ∧ Row w p (xs.flatMap ulV) ∧ (∀ x ∈ xs, UlOk w x) ∧ c * Try.prog.bytesOf 31 ≤ 140737488351232)
    (q : Option Addr) (d : Nat) (ps : List Int) (okp : ps.length ≤ d ∧ d ≤ maxLen ∧ (q = none → d = 0) ∧ Row w q (ps.map (Value.int .i64)) ∧ (∀ n ∈ ps, (Lit.int .i64 n).wf = true) ∧ d * Try.prog.bytesOf 3 ≤ 140737488351232) :
    Calls Try.prog 3 #[.int .u8 a0, .slice p xs.length c, .slice q ps.length d] w fun e w' => e = .returned (.bool true) ∧ Below w.heap.size w w' := by
  by_cases h : 20 < xs.length ∨ 2000 < ps.length
  · exact ends_more w a0 p c xs.length ⟨ok.1, ok.2.1⟩ q d ps.length ⟨okp.1, okp.2.1⟩ h
  · have hx : 0 ≤ a0 ∧ a0 ≤ 255 := by simpa [Lit.wf, IntKind.min, IntKind.max, IntKind.signed, IntKind.bits] using w0
    obtain ⟨a, rfl⟩ : ∃ a : Nat, a0 = a := ⟨a0.toNat, by omega⟩
    exact ends_core w a (by omega) p c xs ⟨ok.1, ok.2.1⟩ ok.2.2.2.1 ok.2.2.2.2.1 q d ps ⟨okp.1, okp.2.1⟩ okp.2.2.2.1 (by omega) (by omega)
end Go.Proofs.Ythmockfeffikjaa
