/-
  slices.Equal of rows, at rows that are the same.
-/
import Derived.Test.YtaophcndkhnbeaaRefChk
namespace Go.Proofs.Ytaophcndkhnbeaa
open Go.RowKit

set_option maxHeartbeats 1000000 in
theorem eqR_any (rs : List (Nat × ByteArray)) (hm : rs.length ≤ 1048576) (p q : Option Addr) (c d : Nat) (w : World) (hp : Row w p (rowCells rs)) (hq : Row w q (rowCells rs)) :
    Calls Try.prog 22 #[.slice p rs.length c, .slice q rs.length d] w fun e w' => e = .returned (.bool true) ∧ Below w.heap.size w w' := by
  have hne : ((rs.length : Int) != (rs.length : Int)) = false := by simp
  go_enter Try.func22, Try.ntmps22
  go_wp2
  go_loopw [13] (fun i wr => ∃ k n : Nat, k ≤ rs.length ∧ i = .int .i64 k ∧ wr = w.drewN n) (fun i _ => rs.length - (intOf i).toNat)
  case atStart => exact ⟨0, 0, Nat.zero_le _, rfl, rfl⟩
  case round =>
    obtain ⟨k, n, hk, rfl, rfl⟩ := hrel
    by_cases hlt : k < rs.length
    · obtain ⟨b1, o1, rfl, _, _⟩ := hp.at (by rw [rowCells_len]; omega)
      obtain ⟨b2, o2, rfl, _, _⟩ := hq.at (by rw [rowCells_len]; omega)
      obtain ⟨c1, c2⟩ := rows_cells hp k hlt
      obtain ⟨c3, c4⟩ := rows_cells hq k hlt
      have hkI : (k : Int) < rs.length := by omega
      generalize rs[k] = r at *
      go_wp2
      go_quiet (fail)
      go_wp2
      go_roundw
      case rel => exact ⟨k + 1, n + nq, by omega, by go_num, rfl⟩
      case measure => simp [intOf]; omega
    · go_wp2
      go_ret
      exact ⟨rfl, below_drewN (Below.refl _ _) _⟩
end Go.Proofs.Ytaophcndkhnbeaa
