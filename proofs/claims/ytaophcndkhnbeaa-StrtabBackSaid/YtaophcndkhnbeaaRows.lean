/-
  No cell of these rows narrows 'for every input' (looked for: loops, veiled, ifaces, maps, wideKeys, modest, calm, conditions, laid).
  DERIVED. THE GIVEN ROWS OF THIS SEAT. 5 by the template 'for every input the law returns true; each argument reads behind the call as it read before'; 0 by the template 'total and deterministic' (their statements: YtaophcndkhnbeaaTotals.lean).
  GIVEN WITH THE SEED: the statements are not yours to turn. If you find one false, say at which input.
  Laid BY PROGRAM, IN A SANDBOX (cutbox-rows.mjs): the forced cells as the released guide's own fill.sh prints them over the translation 6be50ab0e576567a… (all of the seat's roots in one cut). By AI agents, Wed Nov 11 2026. No macro, syntax, notation, axiom, sorry.
-/
import Derived.Test.YtaophcndkhnbeaaChecked
import GoSem.Claim
import GoSem.ClaimJoined
import GoSem.ClaimMapViews
import Derived.JoinedTies
import Derived.KernelRfl
namespace Go.Proofs.Ytaophcndkhnbeaa
/- THE CELL 'sum', in the pinned program and in every row, IS THE sha256 OF THE DUMP (.gsa) THAT YtaophcndkhnbeaaProg.lean LOADS. Nothing in Lean hashes anything: it is a label: what it is worth is what the hold of that sum in a sandbox is worth. -/
noncomputable def Try.pinned : Pinned := { name := "ytaophcndkhnbeaa", sum := "6be50ab0e576567a36520f521bb3cfdfd74d91969cca18b1eebdf399a48432ac", checked := Try.checked }
namespace Rows
def none {H : Type} : Left H := { results := [], args := [] }

/-- 'cooperlaw19.StrtabBuilds': WHATEVER THE INPUT: true; the input reads as it did. -/
def strtabBuildsSpec : ChangeSpec := { name := "strtabBuilds", fn := fun _ => fun
  | [d] => { results := [.lit (.bool true)], args := [d] }
  | _ => none }
def strtabBuildsRow : OpenClaim := { program := "ytaophcndkhnbeaa", sum := "6be50ab0e576567a36520f521bb3cfdfd74d91969cca18b1eebdf399a48432ac", func := "cooper/cooperlaw19.StrtabBuilds", spec := "strtabBuilds", inPlace := ["internal/bytealg.IndexByteString"], apart := false }
def StrtabBuildsSaid : Prop := strtabBuildsRow.holds Try.pinned (OpenSpec.ofChange strtabBuildsSpec)

/-- ITS FALSE NEIGHBOUR: 'it returns false'. Refute it at one input. -/
def strtabBuildsWrong : ChangeSpec := { name := "strtabBuilds", fn := fun _ => fun
  | [d] => { results := [.lit (.bool false)], args := [d] }
  | _ => none }
def StrtabBuildsWrongFalsely : Prop := strtabBuildsRow.holds Try.pinned (OpenSpec.ofChange strtabBuildsWrong)

/-- 'cooperlaw19.StrtabBegins': WHATEVER THE INPUT: true; the input reads as it did. -/
def strtabBeginsSpec : ChangeSpec := { name := "strtabBegins", fn := fun _ => fun
  | [d1, d2] => { results := [.lit (.bool true)], args := [d1, d2] }
  | _ => none }
def strtabBeginsRow : OpenClaim := { program := "ytaophcndkhnbeaa", sum := "6be50ab0e576567a36520f521bb3cfdfd74d91969cca18b1eebdf399a48432ac", func := "cooper/cooperlaw19.StrtabBegins", spec := "strtabBegins", inPlace := ["internal/bytealg.IndexByteString"], apart := false }
def StrtabBeginsSaid : Prop := strtabBeginsRow.holds Try.pinned (OpenSpec.ofChange strtabBeginsSpec)

/-- ITS FALSE NEIGHBOUR: 'it returns false'. Refute it at one input. -/
def strtabBeginsWrong : ChangeSpec := { name := "strtabBegins", fn := fun _ => fun
  | [d1, d2] => { results := [.lit (.bool false)], args := [d1, d2] }
  | _ => none }
def StrtabBeginsWrongFalsely : Prop := strtabBeginsRow.holds Try.pinned (OpenSpec.ofChange strtabBeginsWrong)

/-- 'cooperlaw19.StrtabOnce': WHATEVER THE INPUT: true; the input reads as it did. -/
def strtabOnceSpec : ChangeSpec := { name := "strtabOnce", fn := fun _ => fun
  | [d] => { results := [.lit (.bool true)], args := [d] }
  | _ => none }
def strtabOnceRow : OpenClaim := { program := "ytaophcndkhnbeaa", sum := "6be50ab0e576567a36520f521bb3cfdfd74d91969cca18b1eebdf399a48432ac", func := "cooper/cooperlaw19.StrtabOnce", spec := "strtabOnce", inPlace := ["internal/bytealg.IndexByteString"], apart := false }
def StrtabOnceSaid : Prop := strtabOnceRow.holds Try.pinned (OpenSpec.ofChange strtabOnceSpec)

/-- ITS FALSE NEIGHBOUR: 'it returns false'. Refute it at one input. -/
def strtabOnceWrong : ChangeSpec := { name := "strtabOnce", fn := fun _ => fun
  | [d] => { results := [.lit (.bool false)], args := [d] }
  | _ => none }
def StrtabOnceWrongFalsely : Prop := strtabOnceRow.holds Try.pinned (OpenSpec.ofChange strtabOnceWrong)

/-- 'cooperlaw19.StrtabTells': WHATEVER THE INPUT: true; the input reads as it did. -/
def strtabTellsSpec : ChangeSpec := { name := "strtabTells", fn := fun _ => fun
  | [d1, d2, d3] => { results := [.lit (.bool true)], args := [d1, d2, d3] }
  | _ => none }
def strtabTellsRow : OpenClaim := { program := "ytaophcndkhnbeaa", sum := "6be50ab0e576567a36520f521bb3cfdfd74d91969cca18b1eebdf399a48432ac", func := "cooper/cooperlaw19.StrtabTells", spec := "strtabTells", inPlace := ["internal/bytealg.IndexByteString", "internal/bytealg.IndexByte", "internal/bytealg.Index"], unfollowed := true, recurses := true, named := ["internal/bytealg.MaxLen"], apart := false }
def StrtabTellsSaid : Prop := strtabTellsRow.holds Try.pinned (OpenSpec.ofChange strtabTellsSpec)

/-- ITS FALSE NEIGHBOUR: 'it returns false'. Refute it at one input. -/
def strtabTellsWrong : ChangeSpec := { name := "strtabTells", fn := fun _ => fun
  | [d1, d2, d3] => { results := [.lit (.bool false)], args := [d1, d2, d3] }
  | _ => none }
def StrtabTellsWrongFalsely : Prop := strtabTellsRow.holds Try.pinned (OpenSpec.ofChange strtabTellsWrong)

/-- 'cooperlaw19.StrtabBack': WHATEVER THE INPUT: true; the input reads as it did. -/
def strtabBackSpec : ChangeSpec := { name := "strtabBack", fn := fun _ => fun
  | [d1, d2] => { results := [.lit (.bool true)], args := [d1, d2] }
  | _ => none }
def strtabBackRow : OpenClaim := { program := "ytaophcndkhnbeaa", sum := "6be50ab0e576567a36520f521bb3cfdfd74d91969cca18b1eebdf399a48432ac", func := "cooper/cooperlaw19.StrtabBack", spec := "strtabBack", inPlace := ["internal/bytealg.IndexByteString", "internal/bytealg.IndexByte", "internal/bytealg.Index"], unfollowed := true, recurses := true, named := ["internal/bytealg.MaxLen"], apart := false }
def StrtabBackSaid : Prop := strtabBackRow.holds Try.pinned (OpenSpec.ofChange strtabBackSpec)

/-- ITS FALSE NEIGHBOUR: 'it returns false'. Refute it at one input. -/
def strtabBackWrong : ChangeSpec := { name := "strtabBack", fn := fun _ => fun
  | [d1, d2] => { results := [.lit (.bool false)], args := [d1, d2] }
  | _ => none }
def StrtabBackWrongFalsely : Prop := strtabBackRow.holds Try.pinned (OpenSpec.ofChange strtabBackWrong)

/- THE SECOND FORM. 'bulk': how many values and letters a reading holds, each counted each time it is reached (what is shared counts as often as it is met; a slice's spare places count too). A statement '..UptoSaid' is the law's where the arguments, and the package variables that the reading takes, are together of bulk at most 1048576: NARROWER than '..Said'. Prove '..Said' where nothing that the law and all that it calls make is longer than what came in: it says more and counts as full. Else prove '..UptoSaid'. A law counts once. -/
mutual
def uptoBulk {H : Type} : DataW H → Nat
  | .lit (.string bytes) => bytes.length + 1
  | .lit _ => 1
  | .nil => 1
  | .ptr d => uptoBulk d + 1
  | .slice elems spare => uptoBulkAll elems + uptoBulkAll spare + 1
  | .agg parts => uptoBulkAll parts + 1
  | .iface _ d => uptoBulk d + 1
  | .map entries => uptoBulkEntries entries + 1
  | .held _ => 1
def uptoBulkAll {H : Type} : List (DataW H) → Nat
  | [] => 0
  | d :: r => uptoBulk d + uptoBulkAll r
def uptoBulkEntries {H : Type} : List (Lit × DataW H) → Nat
  | [] => 0
  | x :: r => uptoBulkEntry x + uptoBulkEntries r
def uptoBulkEntry {H : Type} : Lit × DataW H → Nat
  | (.string bytes, d) => bytes.length + uptoBulk d + 1
  | (_, d) => uptoBulk d + 1
 end
def uptoSmall : (H : Type) → List (DataW H) → Bool := fun _ ds => decide (uptoBulkAll ds ≤ 1048576)
def OpenSpec.upto (s : _root_.Go.ChangeSpec) : _root_.Go.OpenSpec := { _root_.Go.OpenSpec.ofChange s with cond := some uptoSmall }

/-- 'cooperlaw19.StrtabBuilds', WHERE WHAT IT READS IS OF BULK AT MOST 1048576: true; the input reads as it did. -/
def strtabBuildsUptoRow : OpenClaim := { program := "ytaophcndkhnbeaa", sum := "6be50ab0e576567a36520f521bb3cfdfd74d91969cca18b1eebdf399a48432ac", func := "cooper/cooperlaw19.StrtabBuilds", spec := "strtabBuilds", inPlace := ["internal/bytealg.IndexByteString"], apart := false, narrowed := true }
def StrtabBuildsUptoSaid : Prop := strtabBuildsUptoRow.holds Try.pinned (OpenSpec.upto strtabBuildsSpec)

/-- 'cooperlaw19.StrtabBegins', WHERE WHAT IT READS IS OF BULK AT MOST 1048576: true; the input reads as it did. -/
def strtabBeginsUptoRow : OpenClaim := { program := "ytaophcndkhnbeaa", sum := "6be50ab0e576567a36520f521bb3cfdfd74d91969cca18b1eebdf399a48432ac", func := "cooper/cooperlaw19.StrtabBegins", spec := "strtabBegins", inPlace := ["internal/bytealg.IndexByteString"], apart := false, narrowed := true }
def StrtabBeginsUptoSaid : Prop := strtabBeginsUptoRow.holds Try.pinned (OpenSpec.upto strtabBeginsSpec)

/-- 'cooperlaw19.StrtabOnce', WHERE WHAT IT READS IS OF BULK AT MOST 1048576: true; the input reads as it did. -/
def strtabOnceUptoRow : OpenClaim := { program := "ytaophcndkhnbeaa", sum := "6be50ab0e576567a36520f521bb3cfdfd74d91969cca18b1eebdf399a48432ac", func := "cooper/cooperlaw19.StrtabOnce", spec := "strtabOnce", inPlace := ["internal/bytealg.IndexByteString"], apart := false, narrowed := true }
def StrtabOnceUptoSaid : Prop := strtabOnceUptoRow.holds Try.pinned (OpenSpec.upto strtabOnceSpec)

/-- 'cooperlaw19.StrtabTells', WHERE WHAT IT READS IS OF BULK AT MOST 1048576: true; the input reads as it did. -/
def strtabTellsUptoRow : OpenClaim := { program := "ytaophcndkhnbeaa", sum := "6be50ab0e576567a36520f521bb3cfdfd74d91969cca18b1eebdf399a48432ac", func := "cooper/cooperlaw19.StrtabTells", spec := "strtabTells", inPlace := ["internal/bytealg.IndexByteString", "internal/bytealg.IndexByte", "internal/bytealg.Index"], unfollowed := true, recurses := true, named := ["internal/bytealg.MaxLen"], apart := false, narrowed := true }
def StrtabTellsUptoSaid : Prop := strtabTellsUptoRow.holds Try.pinned (OpenSpec.upto strtabTellsSpec)

/-- 'cooperlaw19.StrtabBack', WHERE WHAT IT READS IS OF BULK AT MOST 1048576: true; the input reads as it did. -/
def strtabBackUptoRow : OpenClaim := { program := "ytaophcndkhnbeaa", sum := "6be50ab0e576567a36520f521bb3cfdfd74d91969cca18b1eebdf399a48432ac", func := "cooper/cooperlaw19.StrtabBack", spec := "strtabBack", inPlace := ["internal/bytealg.IndexByteString", "internal/bytealg.IndexByte", "internal/bytealg.Index"], unfollowed := true, recurses := true, named := ["internal/bytealg.MaxLen"], apart := false, narrowed := true }
def StrtabBackUptoSaid : Prop := strtabBackUptoRow.holds Try.pinned (OpenSpec.upto strtabBackSpec)

end Rows
end Go.Proofs.Ytaophcndkhnbeaa
