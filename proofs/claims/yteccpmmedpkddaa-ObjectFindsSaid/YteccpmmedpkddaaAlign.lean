/-
  Alignments: which may be: both walks.
-/
import Derived.Test.YteccpmmedpkddaaRRel
namespace Go.Proofs.Yteccpmmedpkddaa
open Go.RowKit

def alP (a : Int) : Bool := decide (a = 1) || decide (a = 2) || decide (a = 4) || decide (a = 8) || decide (a = 16) || decide (a = 32) || decide (a = 64) || decide (a = 128) || decide (a = 256) || decide (a = 512) || decide (a = 1024) || decide (a = 2048) || decide (a = 4096)

set_option maxRecDepth 20000 in
set_option maxHeartbeats 1000000 in
theorem ralign_any (a : Int) (w : World) : Calls Try.prog 67 #[.int .i64 a] w fun e w' => e = .returned (.bool (alP a)) ∧ w = w' := by
  go_enter Try.func67, Try.ntmps67
  go_wp2
  refine wp_loop_rounds 14 ?_
  all_goals try (rw [rounds_succ]; go_wp2)
  all_goals try (rw [rounds_succ]; go_wp2)
  all_goals try (rw [rounds_succ]; go_wp2)
  all_goals try (rw [rounds_succ]; go_wp2)
  all_goals try (rw [rounds_succ]; go_wp2)
  all_goals try (rw [rounds_succ]; go_wp2)
  all_goals try (rw [rounds_succ]; go_wp2)
  all_goals try (rw [rounds_succ]; go_wp2)
  all_goals try (rw [rounds_succ]; go_wp2)
  all_goals try (rw [rounds_succ]; go_wp2)
  all_goals try (rw [rounds_succ]; go_wp2)
  all_goals try (rw [rounds_succ]; go_wp2)
  all_goals try (rw [rounds_succ]; go_wp2)
  all_goals try (rw [rounds_succ]; go_wp2)
  all_goals (go_ret; refine ⟨ret_bool ?_, rfl⟩)
  all_goals (simp_all [alP])

def on1 (a : Int) : Int := IntKind.u64.wrap (bits BinOp.and IntKind.u64 (a / 2) 6148914691236517205 + bits BinOp.and IntKind.u64 a 6148914691236517205)
def on2 (x : Int) : Int := IntKind.u64.wrap (bits BinOp.and IntKind.u64 (x / 4) 3689348814741910323 + bits BinOp.and IntKind.u64 x 3689348814741910323)
def on3 (x : Int) : Int := bits BinOp.and IntKind.u64 (IntKind.u64.wrap (x / 16 + x)) 1085102592571150095
def on4 (x : Int) : Int := IntKind.u64.wrap (x + x / 256)
def on5 (x : Int) : Int := IntKind.u64.wrap (x + x / 65536)
def on6 (x : Int) : Int := IntKind.u64.wrap (x + x / 4294967296)
def onesE (a : Int) : Int := bits BinOp.and IntKind.i64 (wrap64 (on6 (on5 (on4 (on3 (on2 (on1 a))))))) 127
theorem ones_all : (List.range 4096).all (fun n => decide (onesE ((n : Int) + 1) = 1) == alP ((n : Int) + 1)) = true := by decide +kernel
theorem ones_al (a : Int) (h1 : 1 ≤ a) (h2 : a ≤ 4096) : (onesE a != 1) = !alP a := by
  obtain ⟨n, rfl⟩ : ∃ n : Nat, a = (n : Int) + 1 := ⟨(a - 1).toNat, by omega⟩
  have h := List.all_eq_true.1 ones_all n (List.mem_range.2 (by omega))
  simp only [beq_iff_eq] at h
  rw [← h, bne]
  congr 1

set_option maxHeartbeats 1000000 in
theorem ones_any (a : Int) (w : World) (h1 : 1 ≤ a) (h2 : a ≤ 4096) : Calls Try.prog 62 #[.int .u64 a] w fun e w' => e = .returned (.int .i64 (onesE a)) ∧ w = w' := by
  go_enter Try.func62, Try.ntmps62
  go_wp2
  go_ret
  exact ⟨rfl, rfl⟩
end Go.Proofs.Yteccpmmedpkddaa
