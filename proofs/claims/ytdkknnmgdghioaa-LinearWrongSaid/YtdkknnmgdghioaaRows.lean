/-
  No cell of these rows narrows 'for every input' (looked for: loops, veiled, ifaces, maps, wideKeys, modest, calm, conditions, laid).
  DERIVED. THE GIVEN ROWS OF THIS SEAT. 5 by the template 'for every input the law returns true; each argument reads behind the call as it read before'; 0 by the template 'total and deterministic' (their statements: YtdkknnmgdghioaaTotals.lean).
  GIVEN WITH THE SEED: the statements are not yours to turn. If you find one false, say at which input.
  Laid BY PROGRAM, IN A SANDBOX (cutbox-rows.mjs): the forced cells as the released guide's own fill.sh prints them over the translation e602138510f06d01… (all of the seat's roots in one cut). By AI agents, Wed Nov 11 2026. No macro, syntax, notation, axiom, sorry.
-/
import Derived.Test.YtdkknnmgdghioaaChecked
import GoSem.Claim
import GoSem.ClaimJoined
import GoSem.ClaimMapViews
import Derived.JoinedTies
import Derived.KernelRfl
namespace Go.Proofs.Ytdkknnmgdghioaa
/- THE CELL 'sum', in the pinned program and in every row, IS THE sha256 OF THE DUMP (.gsa) THAT YtdkknnmgdghioaaProg.lean LOADS. Nothing in Lean hashes anything: it is a label: what it is worth is what the hold of that sum in a sandbox is worth. -/
noncomputable def Try.pinned : Pinned := { name := "ytdkknnmgdghioaa", sum := "e602138510f06d01327ce60a1400c554ef28fec2b454853bab984b3a3b0ada9d", checked := Try.checked }
namespace Rows
def none {H : Type} : Left H := { results := [], args := [] }

/-- 'cooperlaw26.LinearFinds': WHATEVER THE INPUT: true; the input reads as it did. -/
def linearFindsSpec : ChangeSpec := { name := "linearFinds", fn := fun _ => fun
  | [d] => { results := [.lit (.bool true)], args := [d] }
  | _ => none }
def linearFindsRow : OpenClaim := { program := "ytdkknnmgdghioaa", sum := "e602138510f06d01327ce60a1400c554ef28fec2b454853bab984b3a3b0ada9d", func := "cooper/cooperlaw26.LinearFinds", spec := "linearFinds", unfollowed := true, recurses := true, apart := false }
def LinearFindsSaid : Prop := linearFindsRow.holds Try.pinned (OpenSpec.ofChange linearFindsSpec)

/-- ITS FALSE NEIGHBOUR: 'it returns false'. Refute it at one input. -/
def linearFindsWrong : ChangeSpec := { name := "linearFinds", fn := fun _ => fun
  | [d] => { results := [.lit (.bool false)], args := [d] }
  | _ => none }
def LinearFindsWrongFalsely : Prop := linearFindsRow.holds Try.pinned (OpenSpec.ofChange linearFindsWrong)

/-- 'cooperlaw26.LinearTries': WHATEVER THE INPUT: true; the input reads as it did. -/
def linearTriesSpec : ChangeSpec := { name := "linearTries", fn := fun _ => fun
  | [d] => { results := [.lit (.bool true)], args := [d] }
  | _ => none }
def linearTriesRow : OpenClaim := { program := "ytdkknnmgdghioaa", sum := "e602138510f06d01327ce60a1400c554ef28fec2b454853bab984b3a3b0ada9d", func := "cooper/cooperlaw26.LinearTries", spec := "linearTries", unfollowed := true, recurses := true, apart := false }
def LinearTriesSaid : Prop := linearTriesRow.holds Try.pinned (OpenSpec.ofChange linearTriesSpec)

/-- ITS FALSE NEIGHBOUR: 'it returns false'. Refute it at one input. -/
def linearTriesWrong : ChangeSpec := { name := "linearTries", fn := fun _ => fun
  | [d] => { results := [.lit (.bool false)], args := [d] }
  | _ => none }
def LinearTriesWrongFalsely : Prop := linearTriesRow.holds Try.pinned (OpenSpec.ofChange linearTriesWrong)

/-- 'cooperlaw26.LinearNames': WHATEVER THE INPUT: true; the input reads as it did. -/
def linearNamesSpec : ChangeSpec := { name := "linearNames", fn := fun _ => fun
  | [d] => { results := [.lit (.bool true)], args := [d] }
  | _ => none }
def linearNamesRow : OpenClaim := { program := "ytdkknnmgdghioaa", sum := "e602138510f06d01327ce60a1400c554ef28fec2b454853bab984b3a3b0ada9d", func := "cooper/cooperlaw26.LinearNames", spec := "linearNames", unfollowed := true, recurses := true, apart := false }
def LinearNamesSaid : Prop := linearNamesRow.holds Try.pinned (OpenSpec.ofChange linearNamesSpec)

/-- ITS FALSE NEIGHBOUR: 'it returns false'. Refute it at one input. -/
def linearNamesWrong : ChangeSpec := { name := "linearNames", fn := fun _ => fun
  | [d] => { results := [.lit (.bool false)], args := [d] }
  | _ => none }
def LinearNamesWrongFalsely : Prop := linearNamesRow.holds Try.pinned (OpenSpec.ofChange linearNamesWrong)

/-- 'cooperlaw26.LinearPlays': WHATEVER THE INPUT: true; the input reads as it did. -/
def linearPlaysSpec : ChangeSpec := { name := "linearPlays", fn := fun _ => fun
  | [d] => { results := [.lit (.bool true)], args := [d] }
  | _ => none }
def linearPlaysRow : OpenClaim := { program := "ytdkknnmgdghioaa", sum := "e602138510f06d01327ce60a1400c554ef28fec2b454853bab984b3a3b0ada9d", func := "cooper/cooperlaw26.LinearPlays", spec := "linearPlays", unfollowed := true, recurses := true, apart := false }
def LinearPlaysSaid : Prop := linearPlaysRow.holds Try.pinned (OpenSpec.ofChange linearPlaysSpec)

/-- ITS FALSE NEIGHBOUR: 'it returns false'. Refute it at one input. -/
def linearPlaysWrong : ChangeSpec := { name := "linearPlays", fn := fun _ => fun
  | [d] => { results := [.lit (.bool false)], args := [d] }
  | _ => none }
def LinearPlaysWrongFalsely : Prop := linearPlaysRow.holds Try.pinned (OpenSpec.ofChange linearPlaysWrong)

/-- 'cooperlaw26.LinearWrong': WHATEVER THE INPUT: true; the input reads as it did. -/
def linearWrongSpec : ChangeSpec := { name := "linearWrong", fn := fun _ => fun
  | [d1, d2] => { results := [.lit (.bool true)], args := [d1, d2] }
  | _ => none }
def linearWrongRow : OpenClaim := { program := "ytdkknnmgdghioaa", sum := "e602138510f06d01327ce60a1400c554ef28fec2b454853bab984b3a3b0ada9d", func := "cooper/cooperlaw26.LinearWrong", spec := "linearWrong", unfollowed := true, recurses := true, apart := false }
def LinearWrongSaid : Prop := linearWrongRow.holds Try.pinned (OpenSpec.ofChange linearWrongSpec)

/-- ITS FALSE NEIGHBOUR: 'it returns false'. Refute it at one input. -/
def linearWrongWrong : ChangeSpec := { name := "linearWrong", fn := fun _ => fun
  | [d1, d2] => { results := [.lit (.bool false)], args := [d1, d2] }
  | _ => none }
def LinearWrongWrongFalsely : Prop := linearWrongRow.holds Try.pinned (OpenSpec.ofChange linearWrongWrong)

/- THE SECOND FORM. 'bulk': how many values and letters a reading holds, each counted each time it is reached (what is shared counts as often as it is met; a slice's spare places count too). A statement '..UptoSaid' is the law's where the arguments, and the package variables that the reading takes, are together of bulk at most 1048576: NARROWER than '..Said'. Prove '..Said' where nothing that the law and all that it calls make is longer than what came in: it says more and counts as full. Else prove '..UptoSaid'. A law counts once. -/
mutual
def uptoBulk {H : Type} : DataW H → Nat
  | .lit (.string bytes) => bytes.length + 1
  | .lit _ => 1
  | .nil => 1
  | .ptr d => uptoBulk d + 1
  | .slice elems spare => uptoBulkAll elems + uptoBulkAll spare + 1
  | .agg parts => uptoBulkAll parts + 1
  | .iface _ d => uptoBulk d + 1
  | .map entries => uptoBulkEntries entries + 1
  | .held _ => 1
def uptoBulkAll {H : Type} : List (DataW H) → Nat
  | [] => 0
  | d :: r => uptoBulk d + uptoBulkAll r
def uptoBulkEntries {H : Type} : List (Lit × DataW H) → Nat
  | [] => 0
  | x :: r => uptoBulkEntry x + uptoBulkEntries r
def uptoBulkEntry {H : Type} : Lit × DataW H → Nat
  | (.string bytes, d) => bytes.length + uptoBulk d + 1
  | (_, d) => uptoBulk d + 1
 end
def uptoSmall : (H : Type) → List (DataW H) → Bool := fun _ ds => decide (uptoBulkAll ds ≤ 1048576)
def OpenSpec.upto (s : _root_.Go.ChangeSpec) : _root_.Go.OpenSpec := { _root_.Go.OpenSpec.ofChange s with cond := some uptoSmall }

/-- 'cooperlaw26.LinearFinds', WHERE WHAT IT READS IS OF BULK AT MOST 1048576: true; the input reads as it did. -/
def linearFindsUptoRow : OpenClaim := { program := "ytdkknnmgdghioaa", sum := "e602138510f06d01327ce60a1400c554ef28fec2b454853bab984b3a3b0ada9d", func := "cooper/cooperlaw26.LinearFinds", spec := "linearFinds", unfollowed := true, recurses := true, apart := false, narrowed := true }
def LinearFindsUptoSaid : Prop := linearFindsUptoRow.holds Try.pinned (OpenSpec.upto linearFindsSpec)

/-- 'cooperlaw26.LinearTries', WHERE WHAT IT READS IS OF BULK AT MOST 1048576: true; the input reads as it did. -/
def linearTriesUptoRow : OpenClaim := { program := "ytdkknnmgdghioaa", sum := "e602138510f06d01327ce60a1400c554ef28fec2b454853bab984b3a3b0ada9d", func := "cooper/cooperlaw26.LinearTries", spec := "linearTries", unfollowed := true, recurses := true, apart := false, narrowed := true }
def LinearTriesUptoSaid : Prop := linearTriesUptoRow.holds Try.pinned (OpenSpec.upto linearTriesSpec)

/-- 'cooperlaw26.LinearNames', WHERE WHAT IT READS IS OF BULK AT MOST 1048576: true; the input reads as it did. -/
def linearNamesUptoRow : OpenClaim := { program := "ytdkknnmgdghioaa", sum := "e602138510f06d01327ce60a1400c554ef28fec2b454853bab984b3a3b0ada9d", func := "cooper/cooperlaw26.LinearNames", spec := "linearNames", unfollowed := true, recurses := true, apart := false, narrowed := true }
def LinearNamesUptoSaid : Prop := linearNamesUptoRow.holds Try.pinned (OpenSpec.upto linearNamesSpec)

/-- 'cooperlaw26.LinearPlays', WHERE WHAT IT READS IS OF BULK AT MOST 1048576: true; the input reads as it did. -/
def linearPlaysUptoRow : OpenClaim := { program := "ytdkknnmgdghioaa", sum := "e602138510f06d01327ce60a1400c554ef28fec2b454853bab984b3a3b0ada9d", func := "cooper/cooperlaw26.LinearPlays", spec := "linearPlays", unfollowed := true, recurses := true, apart := false, narrowed := true }
def LinearPlaysUptoSaid : Prop := linearPlaysUptoRow.holds Try.pinned (OpenSpec.upto linearPlaysSpec)

/-- 'cooperlaw26.LinearWrong', WHERE WHAT IT READS IS OF BULK AT MOST 1048576: true; the input reads as it did. -/
def linearWrongUptoRow : OpenClaim := { program := "ytdkknnmgdghioaa", sum := "e602138510f06d01327ce60a1400c554ef28fec2b454853bab984b3a3b0ada9d", func := "cooper/cooperlaw26.LinearWrong", spec := "linearWrong", unfollowed := true, recurses := true, apart := false, narrowed := true }
def LinearWrongUptoSaid : Prop := linearWrongUptoRow.holds Try.pinned (OpenSpec.upto linearWrongSpec)

end Rows
end Go.Proofs.Ytdkknnmgdghioaa
