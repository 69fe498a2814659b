/-
  No cell of these rows narrows 'for every input' (looked for: loops, veiled, ifaces, maps, wideKeys, modest, calm, conditions, laid).
  DERIVED. THE GIVEN ROWS OF THIS SEAT. 8 by the template 'for every input the law returns true; each argument reads behind the call as it read before'; 0 by the template 'total and deterministic' (their statements: YtfpgdaefdpjcmaaTotals.lean).
  GIVEN WITH THE SEED: the statements are not yours to turn. If you find one false, say at which input.
  Laid BY PROGRAM, IN A SANDBOX (cutbox-rows.mjs): the forced cells as the released guide's own fill.sh prints them over the translation 077989b2e05a125b… (all of the seat's roots in one cut). By AI agents, Wed Nov 11 2026. No macro, syntax, notation, axiom, sorry.
-/
import Derived.Test.YtfpgdaefdpjcmaaChecked
import GoSem.Claim
import GoSem.ClaimJoined
import GoSem.ClaimMapViews
import Derived.JoinedTies
import Derived.KernelRfl
namespace Go.Proofs.Ytfpgdaefdpjcmaa
/- THE CELL 'sum', in the pinned program and in every row, IS THE sha256 OF THE DUMP (.gsa) THAT YtfpgdaefdpjcmaaProg.lean LOADS. Nothing in Lean hashes anything: it is a label: what it is worth is what the hold of that sum in a sandbox is worth. -/
noncomputable def Try.pinned : Pinned := { name := "ytfpgdaefdpjcmaa", sum := "077989b2e05a125bfadb9dae66162ae7495cac97ec6376c48d13f24d0a8d0c80", checked := Try.checked }
namespace Rows
def none {H : Type} : Left H := { results := [], args := [] }

/-- 'cooperlaw23.CellsOne': WHATEVER THE INPUT: true; the input reads as it did. -/
def cellsOneSpec : ChangeSpec := { name := "cellsOne", fn := fun _ => fun
  | [d] => { results := [.lit (.bool true)], args := [d] }
  | _ => none }
def cellsOneRow : OpenClaim := { program := "ytfpgdaefdpjcmaa", sum := "077989b2e05a125bfadb9dae66162ae7495cac97ec6376c48d13f24d0a8d0c80", func := "cooper/cooperlaw23.CellsOne", spec := "cellsOne", apart := false }
def CellsOneSaid : Prop := cellsOneRow.holds Try.pinned (OpenSpec.ofChange cellsOneSpec)

/-- ITS FALSE NEIGHBOUR: 'it returns false'. Refute it at one input. -/
def cellsOneWrong : ChangeSpec := { name := "cellsOne", fn := fun _ => fun
  | [d] => { results := [.lit (.bool false)], args := [d] }
  | _ => none }
def CellsOneWrongFalsely : Prop := cellsOneRow.holds Try.pinned (OpenSpec.ofChange cellsOneWrong)

/-- 'cooperlaw23.CellsStays': WHATEVER THE INPUT: true; the input reads as it did. -/
def cellsStaysSpec : ChangeSpec := { name := "cellsStays", fn := fun _ => fun
  | [d1, d2, d3] => { results := [.lit (.bool true)], args := [d1, d2, d3] }
  | _ => none }
def cellsStaysRow : OpenClaim := { program := "ytfpgdaefdpjcmaa", sum := "077989b2e05a125bfadb9dae66162ae7495cac97ec6376c48d13f24d0a8d0c80", func := "cooper/cooperlaw23.CellsStays", spec := "cellsStays", apart := false }
def CellsStaysSaid : Prop := cellsStaysRow.holds Try.pinned (OpenSpec.ofChange cellsStaysSpec)

/-- ITS FALSE NEIGHBOUR: 'it returns false'. Refute it at one input. -/
def cellsStaysWrong : ChangeSpec := { name := "cellsStays", fn := fun _ => fun
  | [d1, d2, d3] => { results := [.lit (.bool false)], args := [d1, d2, d3] }
  | _ => none }
def CellsStaysWrongFalsely : Prop := cellsStaysRow.holds Try.pinned (OpenSpec.ofChange cellsStaysWrong)

/-- 'cooperlaw23.CellsLock': WHATEVER THE INPUT: true; the input reads as it did. -/
def cellsLockSpec : ChangeSpec := { name := "cellsLock", fn := fun _ => fun
  | [d] => { results := [.lit (.bool true)], args := [d] }
  | _ => none }
def cellsLockRow : OpenClaim := { program := "ytfpgdaefdpjcmaa", sum := "077989b2e05a125bfadb9dae66162ae7495cac97ec6376c48d13f24d0a8d0c80", func := "cooper/cooperlaw23.CellsLock", spec := "cellsLock", apart := false }
def CellsLockSaid : Prop := cellsLockRow.holds Try.pinned (OpenSpec.ofChange cellsLockSpec)

/-- ITS FALSE NEIGHBOUR: 'it returns false'. Refute it at one input. -/
def cellsLockWrong : ChangeSpec := { name := "cellsLock", fn := fun _ => fun
  | [d] => { results := [.lit (.bool false)], args := [d] }
  | _ => none }
def CellsLockWrongFalsely : Prop := cellsLockRow.holds Try.pinned (OpenSpec.ofChange cellsLockWrong)

/-- 'cooperlaw23.CellsGate': WHATEVER THE INPUT: true; the input reads as it did. -/
def cellsGateSpec : ChangeSpec := { name := "cellsGate", fn := fun _ => fun
  | [d1, d2] => { results := [.lit (.bool true)], args := [d1, d2] }
  | _ => none }
def cellsGateRow : OpenClaim := { program := "ytfpgdaefdpjcmaa", sum := "077989b2e05a125bfadb9dae66162ae7495cac97ec6376c48d13f24d0a8d0c80", func := "cooper/cooperlaw23.CellsGate", spec := "cellsGate", apart := false }
def CellsGateSaid : Prop := cellsGateRow.holds Try.pinned (OpenSpec.ofChange cellsGateSpec)

/-- ITS FALSE NEIGHBOUR: 'it returns false'. Refute it at one input. -/
def cellsGateWrong : ChangeSpec := { name := "cellsGate", fn := fun _ => fun
  | [d1, d2] => { results := [.lit (.bool false)], args := [d1, d2] }
  | _ => none }
def CellsGateWrongFalsely : Prop := cellsGateRow.holds Try.pinned (OpenSpec.ofChange cellsGateWrong)

/-- 'cooperlaw23.CellsPut': WHATEVER THE INPUT: true; the input reads as it did. -/
def cellsPutSpec : ChangeSpec := { name := "cellsPut", fn := fun _ => fun
  | [d1, d2] => { results := [.lit (.bool true)], args := [d1, d2] }
  | _ => none }
def cellsPutRow : OpenClaim := { program := "ytfpgdaefdpjcmaa", sum := "077989b2e05a125bfadb9dae66162ae7495cac97ec6376c48d13f24d0a8d0c80", func := "cooper/cooperlaw23.CellsPut", spec := "cellsPut", apart := false }
def CellsPutSaid : Prop := cellsPutRow.holds Try.pinned (OpenSpec.ofChange cellsPutSpec)

/-- ITS FALSE NEIGHBOUR: 'it returns false'. Refute it at one input. -/
def cellsPutWrong : ChangeSpec := { name := "cellsPut", fn := fun _ => fun
  | [d1, d2] => { results := [.lit (.bool false)], args := [d1, d2] }
  | _ => none }
def CellsPutWrongFalsely : Prop := cellsPutRow.holds Try.pinned (OpenSpec.ofChange cellsPutWrong)

/-- 'cooperlaw23.CellsAdd': WHATEVER THE INPUT: true; the input reads as it did. -/
def cellsAddSpec : ChangeSpec := { name := "cellsAdd", fn := fun _ => fun
  | [d1, d2, d3] => { results := [.lit (.bool true)], args := [d1, d2, d3] }
  | _ => none }
def cellsAddRow : OpenClaim := { program := "ytfpgdaefdpjcmaa", sum := "077989b2e05a125bfadb9dae66162ae7495cac97ec6376c48d13f24d0a8d0c80", func := "cooper/cooperlaw23.CellsAdd", spec := "cellsAdd", apart := false }
def CellsAddSaid : Prop := cellsAddRow.holds Try.pinned (OpenSpec.ofChange cellsAddSpec)

/-- ITS FALSE NEIGHBOUR: 'it returns false'. Refute it at one input. -/
def cellsAddWrong : ChangeSpec := { name := "cellsAdd", fn := fun _ => fun
  | [d1, d2, d3] => { results := [.lit (.bool false)], args := [d1, d2, d3] }
  | _ => none }
def CellsAddWrongFalsely : Prop := cellsAddRow.holds Try.pinned (OpenSpec.ofChange cellsAddWrong)

/-- 'cooperlaw23.CellsNone': WHATEVER THE INPUT: true; the input reads as it did. -/
def cellsNoneSpec : ChangeSpec := { name := "cellsNone", fn := fun _ => fun
  | [d1, d2] => { results := [.lit (.bool true)], args := [d1, d2] }
  | _ => none }
def cellsNoneRow : OpenClaim := { program := "ytfpgdaefdpjcmaa", sum := "077989b2e05a125bfadb9dae66162ae7495cac97ec6376c48d13f24d0a8d0c80", func := "cooper/cooperlaw23.CellsNone", spec := "cellsNone", unfollowed := true, recurses := true, apart := false }
def CellsNoneSaid : Prop := cellsNoneRow.holds Try.pinned (OpenSpec.ofChange cellsNoneSpec)

/-- ITS FALSE NEIGHBOUR: 'it returns false'. Refute it at one input. -/
def cellsNoneWrong : ChangeSpec := { name := "cellsNone", fn := fun _ => fun
  | [d1, d2] => { results := [.lit (.bool false)], args := [d1, d2] }
  | _ => none }
def CellsNoneWrongFalsely : Prop := cellsNoneRow.holds Try.pinned (OpenSpec.ofChange cellsNoneWrong)

/-- 'cooperlaw23.CellsMemory': WHATEVER THE INPUT: true; the input reads as it did. -/
def cellsMemorySpec : ChangeSpec := { name := "cellsMemory", fn := fun _ => fun
  | [d1, d2] => { results := [.lit (.bool true)], args := [d1, d2] }
  | _ => none }
def cellsMemoryRow : OpenClaim := { program := "ytfpgdaefdpjcmaa", sum := "077989b2e05a125bfadb9dae66162ae7495cac97ec6376c48d13f24d0a8d0c80", func := "cooper/cooperlaw23.CellsMemory", spec := "cellsMemory", unfollowed := true, recurses := true, apart := false }
def CellsMemorySaid : Prop := cellsMemoryRow.holds Try.pinned (OpenSpec.ofChange cellsMemorySpec)

/-- ITS FALSE NEIGHBOUR: 'it returns false'. Refute it at one input. -/
def cellsMemoryWrong : ChangeSpec := { name := "cellsMemory", fn := fun _ => fun
  | [d1, d2] => { results := [.lit (.bool false)], args := [d1, d2] }
  | _ => none }
def CellsMemoryWrongFalsely : Prop := cellsMemoryRow.holds Try.pinned (OpenSpec.ofChange cellsMemoryWrong)

/- THE SECOND FORM. 'bulk': how many values and letters a reading holds, each counted each time it is reached (what is shared counts as often as it is met; a slice's spare places count too). A statement '..UptoSaid' is the law's where the arguments, and the package variables that the reading takes, are together of bulk at most 1048576: NARROWER than '..Said'. Prove '..Said' where nothing that the law and all that it calls make is longer than what came in: it says more and counts as full. Else prove '..UptoSaid'. A law counts once. -/
mutual
def uptoBulk {H : Type} : DataW H → Nat
  | .lit (.string bytes) => bytes.length + 1
  | .lit _ => 1
  | .nil => 1
  | .ptr d => uptoBulk d + 1
  | .slice elems spare => uptoBulkAll elems + uptoBulkAll spare + 1
  | .agg parts => uptoBulkAll parts + 1
  | .iface _ d => uptoBulk d + 1
  | .map entries => uptoBulkEntries entries + 1
  | .held _ => 1
def uptoBulkAll {H : Type} : List (DataW H) → Nat
  | [] => 0
  | d :: r => uptoBulk d + uptoBulkAll r
def uptoBulkEntries {H : Type} : List (Lit × DataW H) → Nat
  | [] => 0
  | x :: r => uptoBulkEntry x + uptoBulkEntries r
def uptoBulkEntry {H : Type} : Lit × DataW H → Nat
  | (.string bytes, d) => bytes.length + uptoBulk d + 1
  | (_, d) => uptoBulk d + 1
 end
def uptoSmall : (H : Type) → List (DataW H) → Bool := fun _ ds => decide (uptoBulkAll ds ≤ 1048576)
def OpenSpec.upto (s : _root_.Go.ChangeSpec) : _root_.Go.OpenSpec := { _root_.Go.OpenSpec.ofChange s with cond := some uptoSmall }

/-- 'cooperlaw23.CellsOne', WHERE WHAT IT READS IS OF BULK AT MOST 1048576: true; the input reads as it did. -/
def cellsOneUptoRow : OpenClaim := { program := "ytfpgdaefdpjcmaa", sum := "077989b2e05a125bfadb9dae66162ae7495cac97ec6376c48d13f24d0a8d0c80", func := "cooper/cooperlaw23.CellsOne", spec := "cellsOne", apart := false, narrowed := true }
def CellsOneUptoSaid : Prop := cellsOneUptoRow.holds Try.pinned (OpenSpec.upto cellsOneSpec)

/-- 'cooperlaw23.CellsStays', WHERE WHAT IT READS IS OF BULK AT MOST 1048576: true; the input reads as it did. -/
def cellsStaysUptoRow : OpenClaim := { program := "ytfpgdaefdpjcmaa", sum := "077989b2e05a125bfadb9dae66162ae7495cac97ec6376c48d13f24d0a8d0c80", func := "cooper/cooperlaw23.CellsStays", spec := "cellsStays", apart := false, narrowed := true }
def CellsStaysUptoSaid : Prop := cellsStaysUptoRow.holds Try.pinned (OpenSpec.upto cellsStaysSpec)

/-- 'cooperlaw23.CellsLock', WHERE WHAT IT READS IS OF BULK AT MOST 1048576: true; the input reads as it did. -/
def cellsLockUptoRow : OpenClaim := { program := "ytfpgdaefdpjcmaa", sum := "077989b2e05a125bfadb9dae66162ae7495cac97ec6376c48d13f24d0a8d0c80", func := "cooper/cooperlaw23.CellsLock", spec := "cellsLock", apart := false, narrowed := true }
def CellsLockUptoSaid : Prop := cellsLockUptoRow.holds Try.pinned (OpenSpec.upto cellsLockSpec)

/-- 'cooperlaw23.CellsGate', WHERE WHAT IT READS IS OF BULK AT MOST 1048576: true; the input reads as it did. -/
def cellsGateUptoRow : OpenClaim := { program := "ytfpgdaefdpjcmaa", sum := "077989b2e05a125bfadb9dae66162ae7495cac97ec6376c48d13f24d0a8d0c80", func := "cooper/cooperlaw23.CellsGate", spec := "cellsGate", apart := false, narrowed := true }
def CellsGateUptoSaid : Prop := cellsGateUptoRow.holds Try.pinned (OpenSpec.upto cellsGateSpec)

/-- 'cooperlaw23.CellsPut', WHERE WHAT IT READS IS OF BULK AT MOST 1048576: true; the input reads as it did. -/
def cellsPutUptoRow : OpenClaim := { program := "ytfpgdaefdpjcmaa", sum := "077989b2e05a125bfadb9dae66162ae7495cac97ec6376c48d13f24d0a8d0c80", func := "cooper/cooperlaw23.CellsPut", spec := "cellsPut", apart := false, narrowed := true }
def CellsPutUptoSaid : Prop := cellsPutUptoRow.holds Try.pinned (OpenSpec.upto cellsPutSpec)

/-- 'cooperlaw23.CellsAdd', WHERE WHAT IT READS IS OF BULK AT MOST 1048576: true; the input reads as it did. -/
def cellsAddUptoRow : OpenClaim := { program := "ytfpgdaefdpjcmaa", sum := "077989b2e05a125bfadb9dae66162ae7495cac97ec6376c48d13f24d0a8d0c80", func := "cooper/cooperlaw23.CellsAdd", spec := "cellsAdd", apart := false, narrowed := true }
def CellsAddUptoSaid : Prop := cellsAddUptoRow.holds Try.pinned (OpenSpec.upto cellsAddSpec)

/-- 'cooperlaw23.CellsNone', WHERE WHAT IT READS IS OF BULK AT MOST 1048576: true; the input reads as it did. -/
def cellsNoneUptoRow : OpenClaim := { program := "ytfpgdaefdpjcmaa", sum := "077989b2e05a125bfadb9dae66162ae7495cac97ec6376c48d13f24d0a8d0c80", func := "cooper/cooperlaw23.CellsNone", spec := "cellsNone", unfollowed := true, recurses := true, apart := false, narrowed := true }
def CellsNoneUptoSaid : Prop := cellsNoneUptoRow.holds Try.pinned (OpenSpec.upto cellsNoneSpec)

/-- 'cooperlaw23.CellsMemory', WHERE WHAT IT READS IS OF BULK AT MOST 1048576: true; the input reads as it did. -/
def cellsMemoryUptoRow : OpenClaim := { program := "ytfpgdaefdpjcmaa", sum := "077989b2e05a125bfadb9dae66162ae7495cac97ec6376c48d13f24d0a8d0c80", func := "cooper/cooperlaw23.CellsMemory", spec := "cellsMemory", unfollowed := true, recurses := true, apart := false, narrowed := true }
def CellsMemoryUptoSaid : Prop := cellsMemoryUptoRow.holds Try.pinned (OpenSpec.upto cellsMemorySpec)

end Rows
end Go.Proofs.Ytfpgdaefdpjcmaa
