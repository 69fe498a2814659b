/-
  No cell of these rows narrows 'for every input' (looked for: loops, veiled, ifaces, maps, wideKeys, modest, calm, conditions, laid).
  DERIVED. THE GIVEN ROWS OF THIS SEAT. 4 by the template 'for every input the law returns true; each argument reads behind the call as it read before'; 0 by the template 'total and deterministic' (their statements: YtabkmdhkfbcldaaTotals.lean).
  GIVEN WITH THE SEED: the statements are not yours to turn. If you find one false, say at which input.
  Laid BY PROGRAM, IN A SANDBOX (cutbox-rows.mjs): the forced cells as the released guide's own fill.sh prints them over the translation 2c57d9c3b3163127… (all of the seat's roots in one cut). By AI agents, Wed Nov 11 2026. No macro, syntax, notation, axiom, sorry.
-/
import Derived.Test.YtabkmdhkfbcldaaChecked
import GoSem.Claim
import GoSem.ClaimJoined
import GoSem.ClaimMapViews
import Derived.JoinedTies
import Derived.KernelRfl
namespace Go.Proofs.Ytabkmdhkfbcldaa
/- THE CELL 'sum', in the pinned program and in every row, IS THE sha256 OF THE DUMP (.gsa) THAT YtabkmdhkfbcldaaProg.lean LOADS. Nothing in Lean hashes anything: it is a label: what it is worth is what the hold of that sum in a sandbox is worth. -/
noncomputable def Try.pinned : Pinned := { name := "ytabkmdhkfbcldaa", sum := "2c57d9c3b316312796e72edd21819c4bf1a1dfebf234427feec095aeeab7ae6e", checked := Try.checked }
namespace Rows
def none {H : Type} : Left H := { results := [], args := [] }

/-- 'cooperlaw27.ShardHashes': WHATEVER THE INPUT: true; the input reads as it did. -/
def shardHashesSpec : ChangeSpec := { name := "shardHashes", fn := fun _ => fun
  | [d1, d2] => { results := [.lit (.bool true)], args := [d1, d2] }
  | _ => none }
def shardHashesRow : OpenClaim := { program := "ytabkmdhkfbcldaa", sum := "2c57d9c3b316312796e72edd21819c4bf1a1dfebf234427feec095aeeab7ae6e", func := "cooper/cooperlaw27.ShardHashes", spec := "shardHashes", apart := false }
def ShardHashesSaid : Prop := shardHashesRow.holds Try.pinned (OpenSpec.ofChange shardHashesSpec)

/-- ITS FALSE NEIGHBOUR: 'it returns false'. Refute it at one input. -/
def shardHashesWrong : ChangeSpec := { name := "shardHashes", fn := fun _ => fun
  | [d1, d2] => { results := [.lit (.bool false)], args := [d1, d2] }
  | _ => none }
def ShardHashesWrongFalsely : Prop := shardHashesRow.holds Try.pinned (OpenSpec.ofChange shardHashesWrong)

/-- 'cooperlaw27.ShardSteps': WHATEVER THE INPUT: true; the input reads as it did. -/
def shardStepsSpec : ChangeSpec := { name := "shardSteps", fn := fun _ => fun
  | [d1, d2, d3, d4] => { results := [.lit (.bool true)], args := [d1, d2, d3, d4] }
  | _ => none }
def shardStepsRow : OpenClaim := { program := "ytabkmdhkfbcldaa", sum := "2c57d9c3b316312796e72edd21819c4bf1a1dfebf234427feec095aeeab7ae6e", func := "cooper/cooperlaw27.ShardSteps", spec := "shardSteps", inPlace := ["maps.clone"], unfollowed := true, recurses := true, apart := false }
def ShardStepsSaid : Prop := shardStepsRow.holds Try.pinned (OpenSpec.ofChange shardStepsSpec)

/-- ITS FALSE NEIGHBOUR: 'it returns false'. Refute it at one input. -/
def shardStepsWrong : ChangeSpec := { name := "shardSteps", fn := fun _ => fun
  | [d1, d2, d3, d4] => { results := [.lit (.bool false)], args := [d1, d2, d3, d4] }
  | _ => none }
def ShardStepsWrongFalsely : Prop := shardStepsRow.holds Try.pinned (OpenSpec.ofChange shardStepsWrong)

/-- 'cooperlaw27.ShardFirst': WHATEVER THE INPUT: true; the input reads as it did. -/
def shardFirstSpec : ChangeSpec := { name := "shardFirst", fn := fun _ => fun
  | [d1, d2, d3] => { results := [.lit (.bool true)], args := [d1, d2, d3] }
  | _ => none }
def shardFirstRow : OpenClaim := { program := "ytabkmdhkfbcldaa", sum := "2c57d9c3b316312796e72edd21819c4bf1a1dfebf234427feec095aeeab7ae6e", func := "cooper/cooperlaw27.ShardFirst", spec := "shardFirst", inPlace := ["maps.clone"], unfollowed := true, recurses := true, apart := false }
def ShardFirstSaid : Prop := shardFirstRow.holds Try.pinned (OpenSpec.ofChange shardFirstSpec)

/-- ITS FALSE NEIGHBOUR: 'it returns false'. Refute it at one input. -/
def shardFirstWrong : ChangeSpec := { name := "shardFirst", fn := fun _ => fun
  | [d1, d2, d3] => { results := [.lit (.bool false)], args := [d1, d2, d3] }
  | _ => none }
def ShardFirstWrongFalsely : Prop := shardFirstRow.holds Try.pinned (OpenSpec.ofChange shardFirstWrong)

/-- 'cooperlaw27.ShardNone': WHATEVER THE INPUT: true; the input reads as it did. -/
def shardNoneSpec : ChangeSpec := { name := "shardNone", fn := fun _ => fun
  | [d1, d2] => { results := [.lit (.bool true)], args := [d1, d2] }
  | _ => none }
def shardNoneRow : OpenClaim := { program := "ytabkmdhkfbcldaa", sum := "2c57d9c3b316312796e72edd21819c4bf1a1dfebf234427feec095aeeab7ae6e", func := "cooper/cooperlaw27.ShardNone", spec := "shardNone", inPlace := ["maps.clone"], unfollowed := true, recurses := true, apart := false }
def ShardNoneSaid : Prop := shardNoneRow.holds Try.pinned (OpenSpec.ofChange shardNoneSpec)

/-- ITS FALSE NEIGHBOUR: 'it returns false'. Refute it at one input. -/
def shardNoneWrong : ChangeSpec := { name := "shardNone", fn := fun _ => fun
  | [d1, d2] => { results := [.lit (.bool false)], args := [d1, d2] }
  | _ => none }
def ShardNoneWrongFalsely : Prop := shardNoneRow.holds Try.pinned (OpenSpec.ofChange shardNoneWrong)

/- THE SECOND FORM. 'bulk': how many values and letters a reading holds, each counted each time it is reached (what is shared counts as often as it is met; a slice's spare places count too). A statement '..UptoSaid' is the law's where the arguments, and the package variables that the reading takes, are together of bulk at most 1048576: NARROWER than '..Said'. Prove '..Said' where nothing that the law and all that it calls make is longer than what came in: it says more and counts as full. Else prove '..UptoSaid'. A law counts once. -/
mutual
def uptoBulk {H : Type} : DataW H → Nat
  | .lit (.string bytes) => bytes.length + 1
  | .lit _ => 1
  | .nil => 1
  | .ptr d => uptoBulk d + 1
  | .slice elems spare => uptoBulkAll elems + uptoBulkAll spare + 1
  | .agg parts => uptoBulkAll parts + 1
  | .iface _ d => uptoBulk d + 1
  | .map entries => uptoBulkEntries entries + 1
  | .held _ => 1
def uptoBulkAll {H : Type} : List (DataW H) → Nat
  | [] => 0
  | d :: r => uptoBulk d + uptoBulkAll r
def uptoBulkEntries {H : Type} : List (Lit × DataW H) → Nat
  | [] => 0
  | x :: r => uptoBulkEntry x + uptoBulkEntries r
def uptoBulkEntry {H : Type} : Lit × DataW H → Nat
  | (.string bytes, d) => bytes.length + uptoBulk d + 1
  | (_, d) => uptoBulk d + 1
 end
def uptoSmall : (H : Type) → List (DataW H) → Bool := fun _ ds => decide (uptoBulkAll ds ≤ 1048576)
def OpenSpec.upto (s : _root_.Go.ChangeSpec) : _root_.Go.OpenSpec := { _root_.Go.OpenSpec.ofChange s with cond := some uptoSmall }

/-- 'cooperlaw27.ShardHashes', WHERE WHAT IT READS IS OF BULK AT MOST 1048576: true; the input reads as it did. -/
def shardHashesUptoRow : OpenClaim := { program := "ytabkmdhkfbcldaa", sum := "2c57d9c3b316312796e72edd21819c4bf1a1dfebf234427feec095aeeab7ae6e", func := "cooper/cooperlaw27.ShardHashes", spec := "shardHashes", apart := false, narrowed := true }
def ShardHashesUptoSaid : Prop := shardHashesUptoRow.holds Try.pinned (OpenSpec.upto shardHashesSpec)

/-- 'cooperlaw27.ShardSteps', WHERE WHAT IT READS IS OF BULK AT MOST 1048576: true; the input reads as it did. -/
def shardStepsUptoRow : OpenClaim := { program := "ytabkmdhkfbcldaa", sum := "2c57d9c3b316312796e72edd21819c4bf1a1dfebf234427feec095aeeab7ae6e", func := "cooper/cooperlaw27.ShardSteps", spec := "shardSteps", inPlace := ["maps.clone"], unfollowed := true, recurses := true, apart := false, narrowed := true }
def ShardStepsUptoSaid : Prop := shardStepsUptoRow.holds Try.pinned (OpenSpec.upto shardStepsSpec)

/-- 'cooperlaw27.ShardFirst', WHERE WHAT IT READS IS OF BULK AT MOST 1048576: true; the input reads as it did. -/
def shardFirstUptoRow : OpenClaim := { program := "ytabkmdhkfbcldaa", sum := "2c57d9c3b316312796e72edd21819c4bf1a1dfebf234427feec095aeeab7ae6e", func := "cooper/cooperlaw27.ShardFirst", spec := "shardFirst", inPlace := ["maps.clone"], unfollowed := true, recurses := true, apart := false, narrowed := true }
def ShardFirstUptoSaid : Prop := shardFirstUptoRow.holds Try.pinned (OpenSpec.upto shardFirstSpec)

/-- 'cooperlaw27.ShardNone', WHERE WHAT IT READS IS OF BULK AT MOST 1048576: true; the input reads as it did. -/
def shardNoneUptoRow : OpenClaim := { program := "ytabkmdhkfbcldaa", sum := "2c57d9c3b316312796e72edd21819c4bf1a1dfebf234427feec095aeeab7ae6e", func := "cooper/cooperlaw27.ShardNone", spec := "shardNone", inPlace := ["maps.clone"], unfollowed := true, recurses := true, apart := false, narrowed := true }
def ShardNoneUptoSaid : Prop := shardNoneUptoRow.holds Try.pinned (OpenSpec.upto shardNoneSpec)

end Rows
end Go.Proofs.Ytabkmdhkfbcldaa
