/-
  Integers in rows.
-/
import Derived.Test.YthmockfeffikjaaBase
import Derived.Test.YthmockfeffikjaaOwn
import Derived.Test.YthmockfeffikjaaProg
import Derived.Test.YthmockfeffikjaaRows
import Derived.Lib.SliceRun
import Derived.IntWalk
namespace Go.Proofs.Ythmockfeffikjaa
open Go.RowKit

abbrev i64 (n : Int) : Value := .int .i64 n
abbrev i64s (l : List Int) : List Value := l.map (Value.int .i64)
abbrev bools (l : List Bool) : List Value := l.map Value.bool
def inI64 (n : Int) : Prop := -9223372036854775808 ≤ n ∧ n ≤ 9223372036854775807
theorem wf_i64 {n : Int} (h : (Lit.int .i64 n).wf = true) : inI64 n := by
  simp [Lit.wf, IntKind.min, IntKind.max, IntKind.bits, IntKind.signed] at h
  simp only [inI64]
  omega
theorem ints_one (l : List Int) : ∀ u ∈ i64s l, u.oneCell' = true := by
  intro u hu
  simp at hu
  obtain ⟨_, _, rfl⟩ := hu
  rfl
theorem bcell {W w1 : World} (hb : Below W.heap.size W w1) : (∀ b o, b < W.heap.size → w1.cell? ⟨b, o, none⟩ = W.cell? ⟨b, o, none⟩) ∧ (∀ b o, b < W.heap.size → w1.frozen? ⟨b, o, none⟩ = W.frozen? ⟨b, o, none⟩) :=
  ⟨fun b o h => hb.cell (p := ⟨b, o, none⟩) h, fun b o h => hb.frozen (p := ⟨b, o, none⟩) h⟩
/-- A slice of integers lies at p. -/
def SlAt (w : World) (p : Option Addr) (c : Nat) (l : List Int) : Prop := l.length ≤ c ∧ c ≤ maxLen ∧ (p = none → c = 0) ∧ Row w p (i64s l)
theorem slat_nil (w : World) : SlAt w none 0 [] := ⟨Nat.le_refl _, Nat.zero_le _, fun _ => rfl, Row.nil _ _⟩
theorem SlAt.below {W w : World} {p : Option Addr} {c : Nat} {l : List Int} (h : SlAt W p c l) (hb : Below W.heap.size W w) : SlAt w p c l := ⟨h.1, h.2.1, h.2.2.1, h.2.2.2.below hb⟩
theorem SlAt.alloc {w : World} {p : Option Addr} {c : Nat} {l : List Int} (h : SlAt w p c l) (o : Obj) : SlAt (w.alloc o) p c l := ⟨h.1, h.2.1, h.2.2.1, h.2.2.2.alloc o⟩
theorem SlAt.drew {w : World} {p : Option Addr} {c : Nat} {l : List Int} (h : SlAt w p c l) : SlAt w.drew p c l := h
theorem own_slat {w : World} {base : Nat} {e : TypeId} {p : Option Addr} {n m c : Nat} {l : List Int} (h : w.ownsRow base e 1 (.slice p m c) n (i64s l)) : SlAt w p c l := by
  have hn : l.length = n := by have := h.1; simpa using this
  obtain ⟨p', c', e', h1, h2, h3, h4, h5⟩ := own_row h
  cases e'
  refine ⟨by omega, h2, fun hp => ?_, h3⟩
  subst hp
  rcases h.2 with ⟨hv, _⟩ | ⟨g, cap, cur, hv, _⟩
  · cases hv; rfl
  · cases hv
end Go.Proofs.Ythmockfeffikjaa
