/-
  The example of the document: 'live' returns true.
-/
import Derived.Test.YtaophcndkhnbeaaWBuild
import Derived.Test.YtaophcndkhnbeaaEq
namespace Go.Proofs.Ytaophcndkhnbeaa
open Go.RowKit

def liveNames : List ByteArray := [⟨#[97]⟩, ⟨#[98, 99]⟩, ⟨#[97]⟩]
theorem live_build : buildP liveNames = ([0, 97, 0, 98, 99, 0], [1, 3, 1], 0) := by decide +kernel

set_option maxHeartbeats 1000000 in
theorem live_any (w : World) : Calls Try.prog 8 #[] w fun e w' => e = .returned (.bool true) ∧ Below w.heap.size w w' := by
  have hr := row_new w [.string ⟨#[97]⟩, .string ⟨#[98, 99]⟩, .string ⟨#[97]⟩] 9
  have hc := build_any _ 3 liveNames _ (by decide) (by decide) hr
  rw [live_build] at hc
  have HC := hid hc
  have HB := hid ((Below.refl w.heap.size w).alloc (Nat.le_refl _) (.cells #[.string ⟨#[97]⟩, .string ⟨#[98, 99]⟩, .string ⟨#[97]⟩] 9))
  clear hc hr
  go_enter Try.func8, Try.ntmps8
  go_wp2_with fail
  refine HC.out.mono ?_
  rintro e w1 ⟨tv, pv, rfl, h1, h2, h3⟩
  have hb1 := HB.out.trans (h3.mono (by simp))
  obtain ⟨tp, tc, rfl, hrt⟩ := own_shape h1
  obtain ⟨pp, pc, rfl, hrp⟩ := own_shape h2
  have hcv : (convert 25 9 (.slice tp 6 tc)).run Try.prog w1 = .ok (.string ⟨#[0, 97, 0, 98, 99, 0]⟩) w1 := (row_bytesIn (l := [0, 97, 0, 98, 99, 0]) hrt).convert (by simp) tc 25 5 9 Try.underlying25 Try.underlying5 Try.underlying9
  have hst := strEq (a := ⟨#[0, 97, 0, 98, 99, 0]⟩) rfl
  have hcv2 : ∀ n, (convert 25 9 (.slice tp 6 tc)).run Try.prog (w1.drewN n) = .ok (.string ⟨#[0, 97, 0, 98, 99, 0]⟩) (w1.drewN n) := fun n => (row_bytesIn (l := [0, 97, 0, 98, 99, 0]) (hrt.drewN n)).convert (by simp) tc 25 5 9 Try.underlying25 Try.underlying5 Try.underlying9
  have HR := hid hrp
  have hsz := hb1.size
  clear hrt hrp h1 h2 h3
  go_wp2_with fail
  refine (intsEq_any pp _ pc 3 [1, 3, 1] [1, 3, 1] _ (HR.out.alloc _) (row_new _ _ _) (by decide) (by decide)).mono ?_
  rintro e w2 ⟨rfl, q, rfl⟩
  go_wp2_with fail
  go_ret
  exact ⟨rfl, below_drewN (hb1.alloc (by omega) _) q⟩
end Go.Proofs.Ytaophcndkhnbeaa
