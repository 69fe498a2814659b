/-
  No cell of these rows narrows 'for every input' (looked for: loops, veiled, ifaces, maps, wideKeys, modest, calm, conditions, laid).
  DERIVED. THE GIVEN ROWS OF THIS SEAT. 6 by the template 'for every input the law returns true; each argument reads behind the call as it read before'; 0 by the template 'total and deterministic' (their statements: YthmockfeffikjaaTotals.lean).
  GIVEN WITH THE SEED: the statements are not yours to turn. If you find one false, say at which input.
  Laid BY PROGRAM, IN A SANDBOX (cutbox-rows.mjs): the forced cells as the released guide's own fill.sh prints them over the translation 5ec94d93f0239161… (all of the seat's roots in one cut). By AI agents, Wed Nov 11 2026. No macro, syntax, notation, axiom, sorry.
-/
import Derived.Test.YthmockfeffikjaaChecked
import GoSem.Claim
import GoSem.ClaimJoined
import GoSem.ClaimMapViews
import Derived.JoinedTies
import Derived.KernelRfl
namespace Go.Proofs.Ythmockfeffikjaa
/- THE CELL 'sum', in the pinned program and in every row, IS THE sha256 OF THE DUMP (.gsa) THAT YthmockfeffikjaaProg.lean LOADS. Nothing in Lean hashes anything: it is a label: what it is worth is what the hold of that sum in a sandbox is worth. -/
noncomputable def Try.pinned : Pinned := { name := "ythmockfeffikjaa", sum := "5ec94d93f02391615a861a188789e69bddf51f7b712a21feb57b6bf0967ebf30", checked := Try.checked }
namespace Rows
def none {H : Type} : Left H := { results := [], args := [] }

/-- 'cooperlaw25.SchedEnds': WHATEVER THE INPUT: true; the input reads as it did. -/
def schedEndsSpec : ChangeSpec := { name := "schedEnds", fn := fun _ => fun
  | [d1, d2, d3] => { results := [.lit (.bool true)], args := [d1, d2, d3] }
  | _ => none }
def schedEndsRow : OpenClaim := { program := "ythmockfeffikjaa", sum := "5ec94d93f02391615a861a188789e69bddf51f7b712a21feb57b6bf0967ebf30", func := "cooper/cooperlaw25.SchedEnds", spec := "schedEnds", unfollowed := true, recurses := true, apart := false }
def SchedEndsSaid : Prop := schedEndsRow.holds Try.pinned (OpenSpec.ofChange schedEndsSpec)

/-- ITS FALSE NEIGHBOUR: 'it returns false'. Refute it at one input. -/
def schedEndsWrong : ChangeSpec := { name := "schedEnds", fn := fun _ => fun
  | [d1, d2, d3] => { results := [.lit (.bool false)], args := [d1, d2, d3] }
  | _ => none }
def SchedEndsWrongFalsely : Prop := schedEndsRow.holds Try.pinned (OpenSpec.ofChange schedEndsWrong)

/-- 'cooperlaw25.SchedSkips': WHATEVER THE INPUT: true; the input reads as it did. -/
def schedSkipsSpec : ChangeSpec := { name := "schedSkips", fn := fun _ => fun
  | [d] => { results := [.lit (.bool true)], args := [d] }
  | _ => none }
def schedSkipsRow : OpenClaim := { program := "ythmockfeffikjaa", sum := "5ec94d93f02391615a861a188789e69bddf51f7b712a21feb57b6bf0967ebf30", func := "cooper/cooperlaw25.SchedSkips", spec := "schedSkips", unfollowed := true, recurses := true, apart := false }
def SchedSkipsSaid : Prop := schedSkipsRow.holds Try.pinned (OpenSpec.ofChange schedSkipsSpec)

/-- ITS FALSE NEIGHBOUR: 'it returns false'. Refute it at one input. -/
def schedSkipsWrong : ChangeSpec := { name := "schedSkips", fn := fun _ => fun
  | [d] => { results := [.lit (.bool false)], args := [d] }
  | _ => none }
def SchedSkipsWrongFalsely : Prop := schedSkipsRow.holds Try.pinned (OpenSpec.ofChange schedSkipsWrong)

/-- 'cooperlaw25.SchedStuck': WHATEVER THE INPUT: true; the input reads as it did. -/
def schedStuckSpec : ChangeSpec := { name := "schedStuck", fn := fun _ => fun
  | [d] => { results := [.lit (.bool true)], args := [d] }
  | _ => none }
def schedStuckRow : OpenClaim := { program := "ythmockfeffikjaa", sum := "5ec94d93f02391615a861a188789e69bddf51f7b712a21feb57b6bf0967ebf30", func := "cooper/cooperlaw25.SchedStuck", spec := "schedStuck", unfollowed := true, recurses := true, apart := false }
def SchedStuckSaid : Prop := schedStuckRow.holds Try.pinned (OpenSpec.ofChange schedStuckSpec)

/-- ITS FALSE NEIGHBOUR: 'it returns false'. Refute it at one input. -/
def schedStuckWrong : ChangeSpec := { name := "schedStuck", fn := fun _ => fun
  | [d] => { results := [.lit (.bool false)], args := [d] }
  | _ => none }
def SchedStuckWrongFalsely : Prop := schedStuckRow.holds Try.pinned (OpenSpec.ofChange schedStuckWrong)

/-- 'cooperlaw25.SchedRuns': WHATEVER THE INPUT: true; the input reads as it did. -/
def schedRunsSpec : ChangeSpec := { name := "schedRuns", fn := fun _ => fun
  | [d1, d2] => { results := [.lit (.bool true)], args := [d1, d2] }
  | _ => none }
def schedRunsRow : OpenClaim := { program := "ythmockfeffikjaa", sum := "5ec94d93f02391615a861a188789e69bddf51f7b712a21feb57b6bf0967ebf30", func := "cooper/cooperlaw25.SchedRuns", spec := "schedRuns", unfollowed := true, recurses := true, apart := false }
def SchedRunsSaid : Prop := schedRunsRow.holds Try.pinned (OpenSpec.ofChange schedRunsSpec)

/-- ITS FALSE NEIGHBOUR: 'it returns false'. Refute it at one input. -/
def schedRunsWrong : ChangeSpec := { name := "schedRuns", fn := fun _ => fun
  | [d1, d2] => { results := [.lit (.bool false)], args := [d1, d2] }
  | _ => none }
def SchedRunsWrongFalsely : Prop := schedRunsRow.holds Try.pinned (OpenSpec.ofChange schedRunsWrong)

/-- 'cooperlaw25.SchedPicks': WHATEVER THE INPUT: true; the input reads as it did. -/
def schedPicksSpec : ChangeSpec := { name := "schedPicks", fn := fun _ => fun
  | [d] => { results := [.lit (.bool true)], args := [d] }
  | _ => none }
def schedPicksRow : OpenClaim := { program := "ythmockfeffikjaa", sum := "5ec94d93f02391615a861a188789e69bddf51f7b712a21feb57b6bf0967ebf30", func := "cooper/cooperlaw25.SchedPicks", spec := "schedPicks", unfollowed := true, recurses := true, apart := false }
def SchedPicksSaid : Prop := schedPicksRow.holds Try.pinned (OpenSpec.ofChange schedPicksSpec)

/-- ITS FALSE NEIGHBOUR: 'it returns false'. Refute it at one input. -/
def schedPicksWrong : ChangeSpec := { name := "schedPicks", fn := fun _ => fun
  | [d] => { results := [.lit (.bool false)], args := [d] }
  | _ => none }
def SchedPicksWrongFalsely : Prop := schedPicksRow.holds Try.pinned (OpenSpec.ofChange schedPicksWrong)

/-- 'cooperlaw25.SchedNone': WHATEVER THE INPUT: true; the input reads as it did. -/
def schedNoneSpec : ChangeSpec := { name := "schedNone", fn := fun _ => fun
  | [d1, d2, d3] => { results := [.lit (.bool true)], args := [d1, d2, d3] }
  | _ => none }
def schedNoneRow : OpenClaim := { program := "ythmockfeffikjaa", sum := "5ec94d93f02391615a861a188789e69bddf51f7b712a21feb57b6bf0967ebf30", func := "cooper/cooperlaw25.SchedNone", spec := "schedNone", unfollowed := true, recurses := true, apart := false }
def SchedNoneSaid : Prop := schedNoneRow.holds Try.pinned (OpenSpec.ofChange schedNoneSpec)

/-- ITS FALSE NEIGHBOUR: 'it returns false'. Refute it at one input. -/
def schedNoneWrong : ChangeSpec := { name := "schedNone", fn := fun _ => fun
  | [d1, d2, d3] => { results := [.lit (.bool false)], args := [d1, d2, d3] }
  | _ => none }
def SchedNoneWrongFalsely : Prop := schedNoneRow.holds Try.pinned (OpenSpec.ofChange schedNoneWrong)

/- THE SECOND FORM. 'bulk': how many values and letters a reading holds, each counted each time it is reached (what is shared counts as often as it is met; a slice's spare places count too). A statement '..UptoSaid' is the law's where the arguments, and the package variables that the reading takes, are together of bulk at most 1048576: NARROWER than '..Said'. Prove '..Said' where nothing that the law and all that it calls make is longer than what came in: it says more and counts as full. Else prove '..UptoSaid'. A law counts once. -/
mutual
def uptoBulk {H : Type} : DataW H → Nat
  | .lit (.string bytes) => bytes.length + 1
  | .lit _ => 1
  | .nil => 1
  | .ptr d => uptoBulk d + 1
  | .slice elems spare => uptoBulkAll elems + uptoBulkAll spare + 1
  | .agg parts => uptoBulkAll parts + 1
  | .iface _ d => uptoBulk d + 1
  | .map entries => uptoBulkEntries entries + 1
  | .held _ => 1
def uptoBulkAll {H : Type} : List (DataW H) → Nat
  | [] => 0
  | d :: r => uptoBulk d + uptoBulkAll r
def uptoBulkEntries {H : Type} : List (Lit × DataW H) → Nat
  | [] => 0
  | x :: r => uptoBulkEntry x + uptoBulkEntries r
def uptoBulkEntry {H : Type} : Lit × DataW H → Nat
  | (.string bytes, d) => bytes.length + uptoBulk d + 1
  | (_, d) => uptoBulk d + 1
 end
def uptoSmall : (H : Type) → List (DataW H) → Bool := fun _ ds => decide (uptoBulkAll ds ≤ 1048576)
def OpenSpec.upto (s : _root_.Go.ChangeSpec) : _root_.Go.OpenSpec := { _root_.Go.OpenSpec.ofChange s with cond := some uptoSmall }

/-- 'cooperlaw25.SchedEnds', WHERE WHAT IT READS IS OF BULK AT MOST 1048576: true; the input reads as it did. -/
def schedEndsUptoRow : OpenClaim := { program := "ythmockfeffikjaa", sum := "5ec94d93f02391615a861a188789e69bddf51f7b712a21feb57b6bf0967ebf30", func := "cooper/cooperlaw25.SchedEnds", spec := "schedEnds", unfollowed := true, recurses := true, apart := false, narrowed := true }
def SchedEndsUptoSaid : Prop := schedEndsUptoRow.holds Try.pinned (OpenSpec.upto schedEndsSpec)

/-- 'cooperlaw25.SchedSkips', WHERE WHAT IT READS IS OF BULK AT MOST 1048576: true; the input reads as it did. -/
def schedSkipsUptoRow : OpenClaim := { program := "ythmockfeffikjaa", sum := "5ec94d93f02391615a861a188789e69bddf51f7b712a21feb57b6bf0967ebf30", func := "cooper/cooperlaw25.SchedSkips", spec := "schedSkips", unfollowed := true, recurses := true, apart := false, narrowed := true }
def SchedSkipsUptoSaid : Prop := schedSkipsUptoRow.holds Try.pinned (OpenSpec.upto schedSkipsSpec)

/-- 'cooperlaw25.SchedStuck', WHERE WHAT IT READS IS OF BULK AT MOST 1048576: true; the input reads as it did. -/
def schedStuckUptoRow : OpenClaim := { program := "ythmockfeffikjaa", sum := "5ec94d93f02391615a861a188789e69bddf51f7b712a21feb57b6bf0967ebf30", func := "cooper/cooperlaw25.SchedStuck", spec := "schedStuck", unfollowed := true, recurses := true, apart := false, narrowed := true }
def SchedStuckUptoSaid : Prop := schedStuckUptoRow.holds Try.pinned (OpenSpec.upto schedStuckSpec)

/-- 'cooperlaw25.SchedRuns', WHERE WHAT IT READS IS OF BULK AT MOST 1048576: true; the input reads as it did. -/
def schedRunsUptoRow : OpenClaim := { program := "ythmockfeffikjaa", sum := "5ec94d93f02391615a861a188789e69bddf51f7b712a21feb57b6bf0967ebf30", func := "cooper/cooperlaw25.SchedRuns", spec := "schedRuns", unfollowed := true, recurses := true, apart := false, narrowed := true }
def SchedRunsUptoSaid : Prop := schedRunsUptoRow.holds Try.pinned (OpenSpec.upto schedRunsSpec)

/-- 'cooperlaw25.SchedPicks', WHERE WHAT IT READS IS OF BULK AT MOST 1048576: true; the input reads as it did. -/
def schedPicksUptoRow : OpenClaim := { program := "ythmockfeffikjaa", sum := "5ec94d93f02391615a861a188789e69bddf51f7b712a21feb57b6bf0967ebf30", func := "cooper/cooperlaw25.SchedPicks", spec := "schedPicks", unfollowed := true, recurses := true, apart := false, narrowed := true }
def SchedPicksUptoSaid : Prop := schedPicksUptoRow.holds Try.pinned (OpenSpec.upto schedPicksSpec)

/-- 'cooperlaw25.SchedNone', WHERE WHAT IT READS IS OF BULK AT MOST 1048576: true; the input reads as it did. -/
def schedNoneUptoRow : OpenClaim := { program := "ythmockfeffikjaa", sum := "5ec94d93f02391615a861a188789e69bddf51f7b712a21feb57b6bf0967ebf30", func := "cooper/cooperlaw25.SchedNone", spec := "schedNone", unfollowed := true, recurses := true, apart := false, narrowed := true }
def SchedNoneUptoSaid : Prop := schedNoneUptoRow.holds Try.pinned (OpenSpec.upto schedNoneSpec)

end Rows
end Go.Proofs.Ythmockfeffikjaa
