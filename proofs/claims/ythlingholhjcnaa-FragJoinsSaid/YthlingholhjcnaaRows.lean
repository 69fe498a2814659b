/-
  No cell of these rows narrows 'for every input' (looked for: loops, veiled, ifaces, maps, wideKeys, modest, calm, conditions, laid).
  DERIVED. THE GIVEN ROWS OF THIS SEAT. 4 by the template 'for every input the law returns true; each argument reads behind the call as it read before'; 0 by the template 'total and deterministic' (their statements: YthlingholhjcnaaTotals.lean).
  GIVEN WITH THE SEED: the statements are not yours to turn. If you find one false, say at which input.
  Laid BY PROGRAM, IN A SANDBOX (cutbox-rows.mjs): the forced cells as the released guide's own fill.sh prints them over the translation f9b80880d797229a… (all of the seat's roots in one cut). By AI agents, Wed Nov 11 2026. No macro, syntax, notation, axiom, sorry.
-/
import Derived.Test.YthlingholhjcnaaChecked
import GoSem.Claim
import GoSem.ClaimJoined
import GoSem.ClaimMapViews
import Derived.JoinedTies
import Derived.KernelRfl
namespace Go.Proofs.Ythlingholhjcnaa
/- THE CELL 'sum', in the pinned program and in every row, IS THE sha256 OF THE DUMP (.gsa) THAT YthlingholhjcnaaProg.lean LOADS. Nothing in Lean hashes anything: it is a label: what it is worth is what the hold of that sum in a sandbox is worth. -/
noncomputable def Try.pinned : Pinned := { name := "ythlingholhjcnaa", sum := "f9b80880d797229a9d4711fcd29b58907cc641f77c03db9c0b76b36e9c545a51", checked := Try.checked }
namespace Rows
def none {H : Type} : Left H := { results := [], args := [] }

/-- 'cooperlaw15.FragOnes': WHATEVER THE INPUT: true; the input reads as it did. -/
def fragOnesSpec : ChangeSpec := { name := "fragOnes", fn := fun _ => fun
  | [d1, d2, d3] => { results := [.lit (.bool true)], args := [d1, d2, d3] }
  | _ => none }
def fragOnesRow : OpenClaim := { program := "ythlingholhjcnaa", sum := "f9b80880d797229a9d4711fcd29b58907cc641f77c03db9c0b76b36e9c545a51", func := "cooper/cooperlaw15.FragOnes", spec := "fragOnes", unfollowed := true, recurses := true, apart := false }
def FragOnesSaid : Prop := fragOnesRow.holds Try.pinned (OpenSpec.ofChange fragOnesSpec)

/-- ITS FALSE NEIGHBOUR: 'it returns false'. Refute it at one input. -/
def fragOnesWrong : ChangeSpec := { name := "fragOnes", fn := fun _ => fun
  | [d1, d2, d3] => { results := [.lit (.bool false)], args := [d1, d2, d3] }
  | _ => none }
def FragOnesWrongFalsely : Prop := fragOnesRow.holds Try.pinned (OpenSpec.ofChange fragOnesWrong)

/-- 'cooperlaw15.FragGroups': WHATEVER THE INPUT: true; the input reads as it did. -/
def fragGroupsSpec : ChangeSpec := { name := "fragGroups", fn := fun _ => fun
  | [d1, d2] => { results := [.lit (.bool true)], args := [d1, d2] }
  | _ => none }
def fragGroupsRow : OpenClaim := { program := "ythlingholhjcnaa", sum := "f9b80880d797229a9d4711fcd29b58907cc641f77c03db9c0b76b36e9c545a51", func := "cooper/cooperlaw15.FragGroups", spec := "fragGroups", unfollowed := true, recurses := true, apart := false }
def FragGroupsSaid : Prop := fragGroupsRow.holds Try.pinned (OpenSpec.ofChange fragGroupsSpec)

/-- ITS FALSE NEIGHBOUR: 'it returns false'. Refute it at one input. -/
def fragGroupsWrong : ChangeSpec := { name := "fragGroups", fn := fun _ => fun
  | [d1, d2] => { results := [.lit (.bool false)], args := [d1, d2] }
  | _ => none }
def FragGroupsWrongFalsely : Prop := fragGroupsRow.holds Try.pinned (OpenSpec.ofChange fragGroupsWrong)

/-- 'cooperlaw15.FragKept': WHATEVER THE INPUT: true; the input reads as it did. -/
def fragKeptSpec : ChangeSpec := { name := "fragKept", fn := fun _ => fun
  | [d1, d2] => { results := [.lit (.bool true)], args := [d1, d2] }
  | _ => none }
def fragKeptRow : OpenClaim := { program := "ythlingholhjcnaa", sum := "f9b80880d797229a9d4711fcd29b58907cc641f77c03db9c0b76b36e9c545a51", func := "cooper/cooperlaw15.FragKept", spec := "fragKept", unfollowed := true, recurses := true, apart := false }
def FragKeptSaid : Prop := fragKeptRow.holds Try.pinned (OpenSpec.ofChange fragKeptSpec)

/-- ITS FALSE NEIGHBOUR: 'it returns false'. Refute it at one input. -/
def fragKeptWrong : ChangeSpec := { name := "fragKept", fn := fun _ => fun
  | [d1, d2] => { results := [.lit (.bool false)], args := [d1, d2] }
  | _ => none }
def FragKeptWrongFalsely : Prop := fragKeptRow.holds Try.pinned (OpenSpec.ofChange fragKeptWrong)

/-- 'cooperlaw15.FragJoins': WHATEVER THE INPUT: true; the input reads as it did. -/
def fragJoinsSpec : ChangeSpec := { name := "fragJoins", fn := fun _ => fun
  | [d1, d2] => { results := [.lit (.bool true)], args := [d1, d2] }
  | _ => none }
def fragJoinsRow : OpenClaim := { program := "ythlingholhjcnaa", sum := "f9b80880d797229a9d4711fcd29b58907cc641f77c03db9c0b76b36e9c545a51", func := "cooper/cooperlaw15.FragJoins", spec := "fragJoins", unfollowed := true, recurses := true, apart := false }
def FragJoinsSaid : Prop := fragJoinsRow.holds Try.pinned (OpenSpec.ofChange fragJoinsSpec)

/-- ITS FALSE NEIGHBOUR: 'it returns false'. Refute it at one input. -/
def fragJoinsWrong : ChangeSpec := { name := "fragJoins", fn := fun _ => fun
  | [d1, d2] => { results := [.lit (.bool false)], args := [d1, d2] }
  | _ => none }
def FragJoinsWrongFalsely : Prop := fragJoinsRow.holds Try.pinned (OpenSpec.ofChange fragJoinsWrong)

/- THE SECOND FORM. 'bulk': how many values and letters a reading holds, each counted each time it is reached (what is shared counts as often as it is met; a slice's spare places count too). A statement '..UptoSaid' is the law's where the arguments, and the package variables that the reading takes, are together of bulk at most 1048576: NARROWER than '..Said'. Prove '..Said' where nothing that the law and all that it calls make is longer than what came in: it says more and counts as full. Else prove '..UptoSaid'. A law counts once. -/
mutual
def uptoBulk {H : Type} : DataW H → Nat
  | .lit (.string bytes) => bytes.length + 1
  | .lit _ => 1
  | .nil => 1
  | .ptr d => uptoBulk d + 1
  | .slice elems spare => uptoBulkAll elems + uptoBulkAll spare + 1
  | .agg parts => uptoBulkAll parts + 1
  | .iface _ d => uptoBulk d + 1
  | .map entries => uptoBulkEntries entries + 1
  | .held _ => 1
def uptoBulkAll {H : Type} : List (DataW H) → Nat
  | [] => 0
  | d :: r => uptoBulk d + uptoBulkAll r
def uptoBulkEntries {H : Type} : List (Lit × DataW H) → Nat
  | [] => 0
  | x :: r => uptoBulkEntry x + uptoBulkEntries r
def uptoBulkEntry {H : Type} : Lit × DataW H → Nat
  | (.string bytes, d) => bytes.length + uptoBulk d + 1
  | (_, d) => uptoBulk d + 1
 end
def uptoSmall : (H : Type) → List (DataW H) → Bool := fun _ ds => decide (uptoBulkAll ds ≤ 1048576)
def OpenSpec.upto (s : _root_.Go.ChangeSpec) : _root_.Go.OpenSpec := { _root_.Go.OpenSpec.ofChange s with cond := some uptoSmall }

/-- 'cooperlaw15.FragOnes', WHERE WHAT IT READS IS OF BULK AT MOST 1048576: true; the input reads as it did. -/
def fragOnesUptoRow : OpenClaim := { program := "ythlingholhjcnaa", sum := "f9b80880d797229a9d4711fcd29b58907cc641f77c03db9c0b76b36e9c545a51", func := "cooper/cooperlaw15.FragOnes", spec := "fragOnes", unfollowed := true, recurses := true, apart := false, narrowed := true }
def FragOnesUptoSaid : Prop := fragOnesUptoRow.holds Try.pinned (OpenSpec.upto fragOnesSpec)

/-- 'cooperlaw15.FragGroups', WHERE WHAT IT READS IS OF BULK AT MOST 1048576: true; the input reads as it did. -/
def fragGroupsUptoRow : OpenClaim := { program := "ythlingholhjcnaa", sum := "f9b80880d797229a9d4711fcd29b58907cc641f77c03db9c0b76b36e9c545a51", func := "cooper/cooperlaw15.FragGroups", spec := "fragGroups", unfollowed := true, recurses := true, apart := false, narrowed := true }
def FragGroupsUptoSaid : Prop := fragGroupsUptoRow.holds Try.pinned (OpenSpec.upto fragGroupsSpec)

/-- 'cooperlaw15.FragKept', WHERE WHAT IT READS IS OF BULK AT MOST 1048576: true; the input reads as it did. -/
def fragKeptUptoRow : OpenClaim := { program := "ythlingholhjcnaa", sum := "f9b80880d797229a9d4711fcd29b58907cc641f77c03db9c0b76b36e9c545a51", func := "cooper/cooperlaw15.FragKept", spec := "fragKept", unfollowed := true, recurses := true, apart := false, narrowed := true }
def FragKeptUptoSaid : Prop := fragKeptUptoRow.holds Try.pinned (OpenSpec.upto fragKeptSpec)

/-- 'cooperlaw15.FragJoins', WHERE WHAT IT READS IS OF BULK AT MOST 1048576: true; the input reads as it did. -/
def fragJoinsUptoRow : OpenClaim := { program := "ythlingholhjcnaa", sum := "f9b80880d797229a9d4711fcd29b58907cc641f77c03db9c0b76b36e9c545a51", func := "cooper/cooperlaw15.FragJoins", spec := "fragJoins", unfollowed := true, recurses := true, apart := false, narrowed := true }
def FragJoinsUptoSaid : Prop := fragJoinsUptoRow.holds Try.pinned (OpenSpec.upto fragJoinsSpec)

end Rows
end Go.Proofs.Ythlingholhjcnaa
