/-
  No cell of these rows narrows 'for every input' (looked for: loops, veiled, ifaces, maps, wideKeys, modest, calm, conditions, laid).
  DERIVED. THE GIVEN ROWS OF THIS SEAT. 5 by the template 'for every input the law returns true; each argument reads behind the call as it read before'; 0 by the template 'total and deterministic' (their statements: YtkjiiikcillcfaaTotals.lean).
  GIVEN WITH THE SEED: the statements are not yours to turn. If you find one false, say at which input.
  Laid BY PROGRAM, IN A SANDBOX (cutbox-rows.mjs): the forced cells as the released guide's own fill.sh prints them over the translation 165d4d4101af9fbf… (all of the seat's roots in one cut). By AI agents, Wed Nov 11 2026. No macro, syntax, notation, axiom, sorry.
-/
import Derived.Test.YtkjiiikcillcfaaChecked
import GoSem.Claim
import GoSem.ClaimJoined
import GoSem.ClaimMapViews
import Derived.JoinedTies
import Derived.KernelRfl
namespace Go.Proofs.Ytkjiiikcillcfaa
/- THE CELL 'sum', in the pinned program and in every row, IS THE sha256 OF THE DUMP (.gsa) THAT YtkjiiikcillcfaaProg.lean LOADS. Nothing in Lean hashes anything: it is a label: what it is worth is what the hold of that sum in a sandbox is worth. -/
noncomputable def Try.pinned : Pinned := { name := "ytkjiiikcillcfaa", sum := "165d4d4101af9fbf9344c80f533969fed3a878a5d9973b18234bfae77c60c77f", checked := Try.checked }
namespace Rows
def none {H : Type} : Left H := { results := [], args := [] }

/-- 'cooperlaw16.RelaxLeast': WHATEVER THE INPUT: true; the input reads as it did. -/
def relaxLeastSpec : ChangeSpec := { name := "relaxLeast", fn := fun _ => fun
  | [d1, d2] => { results := [.lit (.bool true)], args := [d1, d2] }
  | _ => none }
def relaxLeastRow : OpenClaim := { program := "ytkjiiikcillcfaa", sum := "165d4d4101af9fbf9344c80f533969fed3a878a5d9973b18234bfae77c60c77f", func := "cooper/cooperlaw16.RelaxLeast", spec := "relaxLeast", unfollowed := true, recurses := true, apart := false }
def RelaxLeastSaid : Prop := relaxLeastRow.holds Try.pinned (OpenSpec.ofChange relaxLeastSpec)

/-- ITS FALSE NEIGHBOUR: 'it returns false'. Refute it at one input. -/
def relaxLeastWrong : ChangeSpec := { name := "relaxLeast", fn := fun _ => fun
  | [d1, d2] => { results := [.lit (.bool false)], args := [d1, d2] }
  | _ => none }
def RelaxLeastWrongFalsely : Prop := relaxLeastRow.holds Try.pinned (OpenSpec.ofChange relaxLeastWrong)

/-- 'cooperlaw16.RelaxGrows': WHATEVER THE INPUT: true; the input reads as it did. -/
def relaxGrowsSpec : ChangeSpec := { name := "relaxGrows", fn := fun _ => fun
  | [d1, d2, d3] => { results := [.lit (.bool true)], args := [d1, d2, d3] }
  | _ => none }
def relaxGrowsRow : OpenClaim := { program := "ytkjiiikcillcfaa", sum := "165d4d4101af9fbf9344c80f533969fed3a878a5d9973b18234bfae77c60c77f", func := "cooper/cooperlaw16.RelaxGrows", spec := "relaxGrows", unfollowed := true, recurses := true, apart := false }
def RelaxGrowsSaid : Prop := relaxGrowsRow.holds Try.pinned (OpenSpec.ofChange relaxGrowsSpec)

/-- ITS FALSE NEIGHBOUR: 'it returns false'. Refute it at one input. -/
def relaxGrowsWrong : ChangeSpec := { name := "relaxGrows", fn := fun _ => fun
  | [d1, d2, d3] => { results := [.lit (.bool false)], args := [d1, d2, d3] }
  | _ => none }
def RelaxGrowsWrongFalsely : Prop := relaxGrowsRow.holds Try.pinned (OpenSpec.ofChange relaxGrowsWrong)

/-- 'cooperlaw16.RelaxTells': WHATEVER THE INPUT: true; the input reads as it did. -/
def relaxTellsSpec : ChangeSpec := { name := "relaxTells", fn := fun _ => fun
  | [d1, d2, d3] => { results := [.lit (.bool true)], args := [d1, d2, d3] }
  | _ => none }
def relaxTellsRow : OpenClaim := { program := "ytkjiiikcillcfaa", sum := "165d4d4101af9fbf9344c80f533969fed3a878a5d9973b18234bfae77c60c77f", func := "cooper/cooperlaw16.RelaxTells", spec := "relaxTells", unfollowed := true, recurses := true, apart := false }
def RelaxTellsSaid : Prop := relaxTellsRow.holds Try.pinned (OpenSpec.ofChange relaxTellsSpec)

/-- ITS FALSE NEIGHBOUR: 'it returns false'. Refute it at one input. -/
def relaxTellsWrong : ChangeSpec := { name := "relaxTells", fn := fun _ => fun
  | [d1, d2, d3] => { results := [.lit (.bool false)], args := [d1, d2, d3] }
  | _ => none }
def RelaxTellsWrongFalsely : Prop := relaxTellsRow.holds Try.pinned (OpenSpec.ofChange relaxTellsWrong)

/-- 'cooperlaw16.RelaxFits': WHATEVER THE INPUT: true; the input reads as it did. -/
def relaxFitsSpec : ChangeSpec := { name := "relaxFits", fn := fun _ => fun
  | [d] => { results := [.lit (.bool true)], args := [d] }
  | _ => none }
def relaxFitsRow : OpenClaim := { program := "ytkjiiikcillcfaa", sum := "165d4d4101af9fbf9344c80f533969fed3a878a5d9973b18234bfae77c60c77f", func := "cooper/cooperlaw16.RelaxFits", spec := "relaxFits", unfollowed := true, recurses := true, apart := false }
def RelaxFitsSaid : Prop := relaxFitsRow.holds Try.pinned (OpenSpec.ofChange relaxFitsSpec)

/-- ITS FALSE NEIGHBOUR: 'it returns false'. Refute it at one input. -/
def relaxFitsWrong : ChangeSpec := { name := "relaxFits", fn := fun _ => fun
  | [d] => { results := [.lit (.bool false)], args := [d] }
  | _ => none }
def RelaxFitsWrongFalsely : Prop := relaxFitsRow.holds Try.pinned (OpenSpec.ofChange relaxFitsWrong)

/-- 'cooperlaw16.RelaxRounds': WHATEVER THE INPUT: true; the input reads as it did. -/
def relaxRoundsSpec : ChangeSpec := { name := "relaxRounds", fn := fun _ => fun
  | [d1, d2] => { results := [.lit (.bool true)], args := [d1, d2] }
  | _ => none }
def relaxRoundsRow : OpenClaim := { program := "ytkjiiikcillcfaa", sum := "165d4d4101af9fbf9344c80f533969fed3a878a5d9973b18234bfae77c60c77f", func := "cooper/cooperlaw16.RelaxRounds", spec := "relaxRounds", unfollowed := true, recurses := true, apart := false }
def RelaxRoundsSaid : Prop := relaxRoundsRow.holds Try.pinned (OpenSpec.ofChange relaxRoundsSpec)

/-- ITS FALSE NEIGHBOUR: 'it returns false'. Refute it at one input. -/
def relaxRoundsWrong : ChangeSpec := { name := "relaxRounds", fn := fun _ => fun
  | [d1, d2] => { results := [.lit (.bool false)], args := [d1, d2] }
  | _ => none }
def RelaxRoundsWrongFalsely : Prop := relaxRoundsRow.holds Try.pinned (OpenSpec.ofChange relaxRoundsWrong)

/- THE SECOND FORM. 'bulk': how many values and letters a reading holds, each counted each time it is reached (what is shared counts as often as it is met; a slice's spare places count too). A statement '..UptoSaid' is the law's where the arguments, and the package variables that the reading takes, are together of bulk at most 1048576: NARROWER than '..Said'. Prove '..Said' where nothing that the law and all that it calls make is longer than what came in: it says more and counts as full. Else prove '..UptoSaid'. A law counts once. -/
mutual
def uptoBulk {H : Type} : DataW H → Nat
  | .lit (.string bytes) => bytes.length + 1
  | .lit _ => 1
  | .nil => 1
  | .ptr d => uptoBulk d + 1
  | .slice elems spare => uptoBulkAll elems + uptoBulkAll spare + 1
  | .agg parts => uptoBulkAll parts + 1
  | .iface _ d => uptoBulk d + 1
  | .map entries => uptoBulkEntries entries + 1
  | .held _ => 1
def uptoBulkAll {H : Type} : List (DataW H) → Nat
  | [] => 0
  | d :: r => uptoBulk d + uptoBulkAll r
def uptoBulkEntries {H : Type} : List (Lit × DataW H) → Nat
  | [] => 0
  | x :: r => uptoBulkEntry x + uptoBulkEntries r
def uptoBulkEntry {H : Type} : Lit × DataW H → Nat
  | (.string bytes, d) => bytes.length + uptoBulk d + 1
  | (_, d) => uptoBulk d + 1
 end
def uptoSmall : (H : Type) → List (DataW H) → Bool := fun _ ds => decide (uptoBulkAll ds ≤ 1048576)
def OpenSpec.upto (s : _root_.Go.ChangeSpec) : _root_.Go.OpenSpec := { _root_.Go.OpenSpec.ofChange s with cond := some uptoSmall }

/-- 'cooperlaw16.RelaxLeast', WHERE WHAT IT READS IS OF BULK AT MOST 1048576: true; the input reads as it did. -/
def relaxLeastUptoRow : OpenClaim := { program := "ytkjiiikcillcfaa", sum := "165d4d4101af9fbf9344c80f533969fed3a878a5d9973b18234bfae77c60c77f", func := "cooper/cooperlaw16.RelaxLeast", spec := "relaxLeast", unfollowed := true, recurses := true, apart := false, narrowed := true }
def RelaxLeastUptoSaid : Prop := relaxLeastUptoRow.holds Try.pinned (OpenSpec.upto relaxLeastSpec)

/-- 'cooperlaw16.RelaxGrows', WHERE WHAT IT READS IS OF BULK AT MOST 1048576: true; the input reads as it did. -/
def relaxGrowsUptoRow : OpenClaim := { program := "ytkjiiikcillcfaa", sum := "165d4d4101af9fbf9344c80f533969fed3a878a5d9973b18234bfae77c60c77f", func := "cooper/cooperlaw16.RelaxGrows", spec := "relaxGrows", unfollowed := true, recurses := true, apart := false, narrowed := true }
def RelaxGrowsUptoSaid : Prop := relaxGrowsUptoRow.holds Try.pinned (OpenSpec.upto relaxGrowsSpec)

/-- 'cooperlaw16.RelaxTells', WHERE WHAT IT READS IS OF BULK AT MOST 1048576: true; the input reads as it did. -/
def relaxTellsUptoRow : OpenClaim := { program := "ytkjiiikcillcfaa", sum := "165d4d4101af9fbf9344c80f533969fed3a878a5d9973b18234bfae77c60c77f", func := "cooper/cooperlaw16.RelaxTells", spec := "relaxTells", unfollowed := true, recurses := true, apart := false, narrowed := true }
def RelaxTellsUptoSaid : Prop := relaxTellsUptoRow.holds Try.pinned (OpenSpec.upto relaxTellsSpec)

/-- 'cooperlaw16.RelaxFits', WHERE WHAT IT READS IS OF BULK AT MOST 1048576: true; the input reads as it did. -/
def relaxFitsUptoRow : OpenClaim := { program := "ytkjiiikcillcfaa", sum := "165d4d4101af9fbf9344c80f533969fed3a878a5d9973b18234bfae77c60c77f", func := "cooper/cooperlaw16.RelaxFits", spec := "relaxFits", unfollowed := true, recurses := true, apart := false, narrowed := true }
def RelaxFitsUptoSaid : Prop := relaxFitsUptoRow.holds Try.pinned (OpenSpec.upto relaxFitsSpec)

/-- 'cooperlaw16.RelaxRounds', WHERE WHAT IT READS IS OF BULK AT MOST 1048576: true; the input reads as it did. -/
def relaxRoundsUptoRow : OpenClaim := { program := "ytkjiiikcillcfaa", sum := "165d4d4101af9fbf9344c80f533969fed3a878a5d9973b18234bfae77c60c77f", func := "cooper/cooperlaw16.RelaxRounds", spec := "relaxRounds", unfollowed := true, recurses := true, apart := false, narrowed := true }
def RelaxRoundsUptoSaid : Prop := relaxRoundsUptoRow.holds Try.pinned (OpenSpec.upto relaxRoundsSpec)

end Rows
end Go.Proofs.Ytkjiiikcillcfaa
