/-
  No cell of these rows narrows 'for every input' (looked for: loops, veiled, ifaces, maps, wideKeys, modest, calm, conditions, laid).
  DERIVED. THE GIVEN ROWS OF THIS SEAT. 5 by the template 'for every input the law returns true; each argument reads behind the call as it read before'; 0 by the template 'total and deterministic' (their statements: YteccpmmedpkddaaTotals.lean).
  GIVEN WITH THE SEED: the statements are not yours to turn. If you find one false, say at which input.
  Laid BY PROGRAM, IN A SANDBOX (cutbox-rows.mjs): the forced cells as the released guide's own fill.sh prints them over the translation 8a0d8f75b3e041a9… (all of the seat's roots in one cut). By AI agents, Wed Nov 11 2026. No macro, syntax, notation, axiom, sorry.
-/
import Derived.Test.YteccpmmedpkddaaChecked
import GoSem.Claim
import GoSem.ClaimJoined
import GoSem.ClaimMapViews
import Derived.JoinedTies
import Derived.KernelRfl
namespace Go.Proofs.Yteccpmmedpkddaa
/- THE CELL 'sum', in the pinned program and in every row, IS THE sha256 OF THE DUMP (.gsa) THAT YteccpmmedpkddaaProg.lean LOADS. Nothing in Lean hashes anything: it is a label: what it is worth is what the hold of that sum in a sandbox is worth. -/
noncomputable def Try.pinned : Pinned := { name := "yteccpmmedpkddaa", sum := "8a0d8f75b3e041a9708c354f6858dfec6f2c6431f767a97f9580ce76256f7455", checked := Try.checked }
namespace Rows
def none {H : Type} : Left H := { results := [], args := [] }

/-- 'cooperlaw14.ObjectChecks': WHATEVER THE INPUT: true; the input reads as it did. -/
def objectChecksSpec : ChangeSpec := { name := "objectChecks", fn := fun _ => fun
  | [d1, d2, d3] => { results := [.lit (.bool true)], args := [d1, d2, d3] }
  | _ => none }
def objectChecksRow : OpenClaim := { program := "yteccpmmedpkddaa", sum := "8a0d8f75b3e041a9708c354f6858dfec6f2c6431f767a97f9580ce76256f7455", func := "cooper/cooperlaw14.ObjectChecks", spec := "objectChecks", inPlace := ["internal/bytealg.IndexByteString", "internal/bytealg.abigen_runtime_cmpstring"], unfollowed := true, recurses := true, plainKeys := false, apart := false }
def ObjectChecksSaid : Prop := objectChecksRow.holds Try.pinned (OpenSpec.ofChange objectChecksSpec)

/-- ITS FALSE NEIGHBOUR: 'it returns false'. Refute it at one input. -/
def objectChecksWrong : ChangeSpec := { name := "objectChecks", fn := fun _ => fun
  | [d1, d2, d3] => { results := [.lit (.bool false)], args := [d1, d2, d3] }
  | _ => none }
def ObjectChecksWrongFalsely : Prop := objectChecksRow.holds Try.pinned (OpenSpec.ofChange objectChecksWrong)

/-- 'cooperlaw14.ObjectFound': WHATEVER THE INPUT: true; the input reads as it did. -/
def objectFoundSpec : ChangeSpec := { name := "objectFound", fn := fun _ => fun
  | [d1, d2] => { results := [.lit (.bool true)], args := [d1, d2] }
  | _ => none }
def objectFoundRow : OpenClaim := { program := "yteccpmmedpkddaa", sum := "8a0d8f75b3e041a9708c354f6858dfec6f2c6431f767a97f9580ce76256f7455", func := "cooper/cooperlaw14.ObjectFound", spec := "objectFound", inPlace := ["internal/bytealg.IndexByteString", "internal/bytealg.abigen_runtime_cmpstring"], unfollowed := true, recurses := true, plainKeys := false, apart := false }
def ObjectFoundSaid : Prop := objectFoundRow.holds Try.pinned (OpenSpec.ofChange objectFoundSpec)

/-- ITS FALSE NEIGHBOUR: 'it returns false'. Refute it at one input. -/
def objectFoundWrong : ChangeSpec := { name := "objectFound", fn := fun _ => fun
  | [d1, d2] => { results := [.lit (.bool false)], args := [d1, d2] }
  | _ => none }
def ObjectFoundWrongFalsely : Prop := objectFoundRow.holds Try.pinned (OpenSpec.ofChange objectFoundWrong)

/-- 'cooperlaw14.ObjectFinds': WHATEVER THE INPUT: true; the input reads as it did. -/
def objectFindsSpec : ChangeSpec := { name := "objectFinds", fn := fun _ => fun
  | [d1, d2, d3, d4, d5] => { results := [.lit (.bool true)], args := [d1, d2, d3, d4, d5] }
  | _ => none }
def objectFindsRow : OpenClaim := { program := "yteccpmmedpkddaa", sum := "8a0d8f75b3e041a9708c354f6858dfec6f2c6431f767a97f9580ce76256f7455", func := "cooper/cooperlaw14.ObjectFinds", spec := "objectFinds", inPlace := ["internal/bytealg.IndexByteString", "internal/bytealg.abigen_runtime_cmpstring"], unfollowed := true, recurses := true, plainKeys := false, apart := false }
def ObjectFindsSaid : Prop := objectFindsRow.holds Try.pinned (OpenSpec.ofChange objectFindsSpec)

/-- ITS FALSE NEIGHBOUR: 'it returns false'. Refute it at one input. -/
def objectFindsWrong : ChangeSpec := { name := "objectFinds", fn := fun _ => fun
  | [d1, d2, d3, d4, d5] => { results := [.lit (.bool false)], args := [d1, d2, d3, d4, d5] }
  | _ => none }
def ObjectFindsWrongFalsely : Prop := objectFindsRow.holds Try.pinned (OpenSpec.ofChange objectFindsWrong)

/-- 'cooperlaw14.ObjectNorms': WHATEVER THE INPUT: true; the input reads as it did. -/
def objectNormsSpec : ChangeSpec := { name := "objectNorms", fn := fun _ => fun
  | [d1, d2] => { results := [.lit (.bool true)], args := [d1, d2] }
  | _ => none }
def objectNormsRow : OpenClaim := { program := "yteccpmmedpkddaa", sum := "8a0d8f75b3e041a9708c354f6858dfec6f2c6431f767a97f9580ce76256f7455", func := "cooper/cooperlaw14.ObjectNorms", spec := "objectNorms", inPlace := ["internal/bytealg.IndexByteString", "internal/bytealg.abigen_runtime_cmpstring"], unfollowed := true, recurses := true, plainKeys := false, apart := false }
def ObjectNormsSaid : Prop := objectNormsRow.holds Try.pinned (OpenSpec.ofChange objectNormsSpec)

/-- ITS FALSE NEIGHBOUR: 'it returns false'. Refute it at one input. -/
def objectNormsWrong : ChangeSpec := { name := "objectNorms", fn := fun _ => fun
  | [d1, d2] => { results := [.lit (.bool false)], args := [d1, d2] }
  | _ => none }
def ObjectNormsWrongFalsely : Prop := objectNormsRow.holds Try.pinned (OpenSpec.ofChange objectNormsWrong)

/-- 'cooperlaw14.ObjectOrder': WHATEVER THE INPUT: true; the input reads as it did. -/
def objectOrderSpec : ChangeSpec := { name := "objectOrder", fn := fun _ => fun
  | [d1, d2] => { results := [.lit (.bool true)], args := [d1, d2] }
  | _ => none }
def objectOrderRow : OpenClaim := { program := "yteccpmmedpkddaa", sum := "8a0d8f75b3e041a9708c354f6858dfec6f2c6431f767a97f9580ce76256f7455", func := "cooper/cooperlaw14.ObjectOrder", spec := "objectOrder", inPlace := ["internal/bytealg.IndexByteString", "internal/bytealg.abigen_runtime_cmpstring"], unfollowed := true, recurses := true, plainKeys := false, apart := false }
def ObjectOrderSaid : Prop := objectOrderRow.holds Try.pinned (OpenSpec.ofChange objectOrderSpec)

/-- ITS FALSE NEIGHBOUR: 'it returns false'. Refute it at one input. -/
def objectOrderWrong : ChangeSpec := { name := "objectOrder", fn := fun _ => fun
  | [d1, d2] => { results := [.lit (.bool false)], args := [d1, d2] }
  | _ => none }
def ObjectOrderWrongFalsely : Prop := objectOrderRow.holds Try.pinned (OpenSpec.ofChange objectOrderWrong)

/- THE SECOND FORM. 'bulk': how many values and letters a reading holds, each counted each time it is reached (what is shared counts as often as it is met; a slice's spare places count too). A statement '..UptoSaid' is the law's where the arguments, and the package variables that the reading takes, are together of bulk at most 1048576: NARROWER than '..Said'. Prove '..Said' where nothing that the law and all that it calls make is longer than what came in: it says more and counts as full. Else prove '..UptoSaid'. A law counts once. -/
mutual
def uptoBulk {H : Type} : DataW H → Nat
  | .lit (.string bytes) => bytes.length + 1
  | .lit _ => 1
  | .nil => 1
  | .ptr d => uptoBulk d + 1
  | .slice elems spare => uptoBulkAll elems + uptoBulkAll spare + 1
  | .agg parts => uptoBulkAll parts + 1
  | .iface _ d => uptoBulk d + 1
  | .map entries => uptoBulkEntries entries + 1
  | .held _ => 1
def uptoBulkAll {H : Type} : List (DataW H) → Nat
  | [] => 0
  | d :: r => uptoBulk d + uptoBulkAll r
def uptoBulkEntries {H : Type} : List (Lit × DataW H) → Nat
  | [] => 0
  | x :: r => uptoBulkEntry x + uptoBulkEntries r
def uptoBulkEntry {H : Type} : Lit × DataW H → Nat
  | (.string bytes, d) => bytes.length + uptoBulk d + 1
  | (_, d) => uptoBulk d + 1
 end
def uptoSmall : (H : Type) → List (DataW H) → Bool := fun _ ds => decide (uptoBulkAll ds ≤ 1048576)
def OpenSpec.upto (s : _root_.Go.ChangeSpec) : _root_.Go.OpenSpec := { _root_.Go.OpenSpec.ofChange s with cond := some uptoSmall }

/-- 'cooperlaw14.ObjectChecks', WHERE WHAT IT READS IS OF BULK AT MOST 1048576: true; the input reads as it did. -/
def objectChecksUptoRow : OpenClaim := { program := "yteccpmmedpkddaa", sum := "8a0d8f75b3e041a9708c354f6858dfec6f2c6431f767a97f9580ce76256f7455", func := "cooper/cooperlaw14.ObjectChecks", spec := "objectChecks", inPlace := ["internal/bytealg.IndexByteString", "internal/bytealg.abigen_runtime_cmpstring"], unfollowed := true, recurses := true, plainKeys := false, apart := false, narrowed := true }
def ObjectChecksUptoSaid : Prop := objectChecksUptoRow.holds Try.pinned (OpenSpec.upto objectChecksSpec)

/-- 'cooperlaw14.ObjectFound', WHERE WHAT IT READS IS OF BULK AT MOST 1048576: true; the input reads as it did. -/
def objectFoundUptoRow : OpenClaim := { program := "yteccpmmedpkddaa", sum := "8a0d8f75b3e041a9708c354f6858dfec6f2c6431f767a97f9580ce76256f7455", func := "cooper/cooperlaw14.ObjectFound", spec := "objectFound", inPlace := ["internal/bytealg.IndexByteString", "internal/bytealg.abigen_runtime_cmpstring"], unfollowed := true, recurses := true, plainKeys := false, apart := false, narrowed := true }
def ObjectFoundUptoSaid : Prop := objectFoundUptoRow.holds Try.pinned (OpenSpec.upto objectFoundSpec)

/-- 'cooperlaw14.ObjectFinds', WHERE WHAT IT READS IS OF BULK AT MOST 1048576: true; the input reads as it did. -/
def objectFindsUptoRow : OpenClaim := { program := "yteccpmmedpkddaa", sum := "8a0d8f75b3e041a9708c354f6858dfec6f2c6431f767a97f9580ce76256f7455", func := "cooper/cooperlaw14.ObjectFinds", spec := "objectFinds", inPlace := ["internal/bytealg.IndexByteString", "internal/bytealg.abigen_runtime_cmpstring"], unfollowed := true, recurses := true, plainKeys := false, apart := false, narrowed := true }
def ObjectFindsUptoSaid : Prop := objectFindsUptoRow.holds Try.pinned (OpenSpec.upto objectFindsSpec)

/-- 'cooperlaw14.ObjectNorms', WHERE WHAT IT READS IS OF BULK AT MOST 1048576: true; the input reads as it did. -/
def objectNormsUptoRow : OpenClaim := { program := "yteccpmmedpkddaa", sum := "8a0d8f75b3e041a9708c354f6858dfec6f2c6431f767a97f9580ce76256f7455", func := "cooper/cooperlaw14.ObjectNorms", spec := "objectNorms", inPlace := ["internal/bytealg.IndexByteString", "internal/bytealg.abigen_runtime_cmpstring"], unfollowed := true, recurses := true, plainKeys := false, apart := false, narrowed := true }
def ObjectNormsUptoSaid : Prop := objectNormsUptoRow.holds Try.pinned (OpenSpec.upto objectNormsSpec)

/-- 'cooperlaw14.ObjectOrder', WHERE WHAT IT READS IS OF BULK AT MOST 1048576: true; the input reads as it did. -/
def objectOrderUptoRow : OpenClaim := { program := "yteccpmmedpkddaa", sum := "8a0d8f75b3e041a9708c354f6858dfec6f2c6431f767a97f9580ce76256f7455", func := "cooper/cooperlaw14.ObjectOrder", spec := "objectOrder", inPlace := ["internal/bytealg.IndexByteString", "internal/bytealg.abigen_runtime_cmpstring"], unfollowed := true, recurses := true, plainKeys := false, apart := false, narrowed := true }
def ObjectOrderUptoSaid : Prop := objectOrderUptoRow.holds Try.pinned (OpenSpec.upto objectOrderSpec)

end Rows
end Go.Proofs.Yteccpmmedpkddaa
