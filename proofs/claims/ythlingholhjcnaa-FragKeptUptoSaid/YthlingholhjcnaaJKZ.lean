/-
  The statement of FragKept, second form, out of its walk: for every input whose bulk is at most 1048576 the law returns true, and its arguments read behind the call as before it. Conditions: the bulk's bound, and the form's own.
-/
import Derived.Test.YthlingholhjcnaaJO0
import Derived.Test.YthlingholhjcnaaChecked
import Derived.Test.YthlingholhjcnaaRows
import Derived.Test.YthlingholhjcnaaJO9
import Derived.Test.YthlingholhjcnaaJK1
import Derived.JoinedCond
import Derived.Deep.CondSized
namespace Go.Proofs.Ythlingholhjcnaa.fragKept
open Go.ChangeShapes Go.WideShapes Go.ChangeAt Go.RowKit
open Go.ChangeMaps (open_string shut_string)

theorem own : ownKnob Try.prog.godebug = none := by kernel_rfl
theorem laidOut : laidOutB Try.prog = true := by kernel_rfl

set_option maxRecDepth 100000 in
theorem lifted (os : Os) (started : os.Started) (H : Type) (enc : TypeId × Value → H) (F : Stop.Interp) :
    ReturnsInHanded {} Try.checked os 5 .any ((Rows.OpenSpec.upto Rows.fragKeptSpec).pre6 enc Try.prog Try.f5 Rows.fragKeptUptoRow.domain false) (((Rows.OpenSpec.upto Rows.fragKeptSpec).at F).post enc Try.prog Try.f5 false true false false) := by
  refine returnsInHanded_of_cond_sized (C := Try.checked) (s := Rows.OpenSpec.upto Rows.fragKeptSpec) (k := Rows.uptoSmall) rfl own started (by kernel_rfl) Try.func5
    (OpenSpec.witness (enc := enc) (C := Try.checked) (s := Rows.OpenSpec.upto Rows.fragKeptSpec) (k := Rows.uptoSmall) rfl false ⟨#[], #[.slice none 0 0, .slice none 0 0], []⟩ 8 (by kernel_rfl) (by kernel_rfl) (by kernel_rfl)
      (x := ([.nil, .nil], [], [])) (by kernel_rfl) rfl (by kernel_rfl)) ?_
  intro W base args ds gs before hval0 hW _ hk0 hsz0 _
  have hval : ∀ (j : Nat) t v, Try.f5.params[j]? = some t → args[j]? = some v → Value.okWide Try.prog W .any base t v := hval0
  have hW' := hW
  obtain ⟨p, q, hA0, hV, rfl, hfz, hnd⟩ := hW
  have hA : DataW.TrodAll enc Try.prog W 0 (fun _ => true) true Try.f5.params.toList args.toList ds p := hA0
  rw [Try.params5] at hA hval
  obtain ⟨v0, vs0, d0, ds0, p0, q0, hargs, rfl, rfl, h0, r0⟩ := trodAll_cons hA
  obtain ⟨v1, vs1, d1, ds1, p1, q1, rfl, rfl, rfl, h1, r1⟩ := trodAll_cons r0
  obtain ⟨rfl, rfl, rfl⟩ := trodAll_nil r1
  obtain rfl : args = #[v0, v1] := by cases args; simp_all
  obtain ⟨rfl, rfl⟩ := trodVars_none hV
  have hsz : (DataW.weightsEach Try.prog [44, 22] [d0, d1]).all (· ≤ reachBytes) = true := hsz0
  have k0 := h0
  have lt0 : ∀ x ∈ p0, x.block < W.heap.size := by obtain ⟨m, hm⟩ := k0; exact DataW.trod_lt m _ _ _ hm
  have k1 := h1
  have lt1 : ∀ x ∈ p1, x.block < W.heap.size := by obtain ⟨m, hm⟩ := k1; exact DataW.trod_lt m _ _ _ hm
  have hbk : Rows.uptoBulk d1 ≤ 1048576 := by
    have h : Rows.uptoBulkAll [d0, d1] ≤ 1048576 := of_decide_eq_true hk0
    simp only [Rows.uptoBulkAll] at h
    omega
  obtain ⟨x0, e0, ok0⟩ := param_slice Try.underlying44 (opens_sl (k := 3) (bytes := 72) Try.underlying44 (by kernel_rfl) (by kernel_rfl) (by decide) (fun _ => rfl) opens_UnR) (hval 0 44 v0 rfl rfl) h0 (light_param hsz (j := 0) (t := 44) rfl rfl)
  obtain rfl : v0 = x0.val := by simpa using e0
  obtain ⟨x1, e1, ok1, bk1⟩ := param_sliceB Try.underlying22 opens_rowsB (hval 1 22 v1 rfl rfl) h1 (light_param hsz (j := 1) (t := 22) rfl rfl)
  obtain rfl : v1 = x1.val := by simpa using e1
  clear hA0 hval0 hsz0 hk0
  refine (kept_walk W x0 ok0.1 ok0.2 x1 ok1.1 ok1.2 (by omega)).mono fun e W' ⟨he, bel⟩ => ?_
  subst he
  exact ⟨_, rfl, _, _, _, [], _, [], hW', trodAll_mk1 (shut_bool Try.underlying4 _), (trodAll_cons_mk (Below.trod laidOut (by kernel_rfl) (of_decide_eq_true (by kernel_rfl)) k0 bel lt0) (trodAll_cons_mk (Below.trod laidOut (by kernel_rfl) (of_decide_eq_true (by kernel_rfl)) k1 bel lt1) trodAll_mk0)), rfl, bel.frame _, fun h => by cases h⟩

theorem over : Rows.fragKeptUptoRow.holds Try.pinned (Rows.OpenSpec.upto Rows.fragKeptSpec) :=
  OpenClaim.holds_of_cond 5 Try.f5 rfl rfl rfl rfl rfl rfl rfl ⟨rfl, rfl, rfl, rfl, rfl⟩ rfl rfl rfl rfl rfl (by kernel_rfl) Try.func5 (by kernel_rfl)
    (of_decide_eq_true (by kernel_rfl)) (by unfold Func.isWrapper; first | (rw [if_pos (by decide +kernel)]; kernel_rfl) | (rw [if_neg (by decide +kernel)]; exact ⟨rfl, rfl⟩))
    (fun os started H enc _ F => lifted os started H enc F)

theorem proved : Rows.FragKeptUptoSaid := over
#print axioms proved
end Go.Proofs.Ythlingholhjcnaa.fragKept
