/-
  'x &^ (2^n - 1)' of a number that is not negative: it is cut down to a multiple of 2^n.
-/
import Derived.WalkKit
namespace Go.Proofs.Ytkjiiikcillcfaa

theorem clr (x n : Nat) (hx : x < 2 ^ 64) (hn : n ≤ 64) : x &&& (2 ^ 64 - 1 - (2 ^ n - 1)) = x / 2 ^ n * 2 ^ n := by
  have hp : 2 ^ n ≤ 2 ^ 64 := Nat.pow_le_pow_right (by decide) hn
  have hp0 : 0 < 2 ^ n := Nat.two_pow_pos n
  apply Nat.eq_of_testBit_eq
  intro i
  have e : 2 ^ 64 - 1 - (2 ^ n - 1) = 2 ^ 64 - ((2 ^ n - 1) + 1) := by omega
  rw [Nat.testBit_and, e, Nat.testBit_two_pow_sub_succ (by omega), Nat.testBit_two_pow_sub_one, Nat.mul_comm, Nat.testBit_two_pow_mul]
  by_cases h : n ≤ i
  · rw [Nat.testBit_div_two_pow]
    have : ¬ i < n := by omega
    by_cases h64 : i < 64
    · simp [h, this, h64, Nat.sub_add_cancel h]
    · have : x.testBit i = false := Nat.testBit_lt_two_pow (Nat.lt_of_lt_of_le hx (Nat.pow_le_pow_right (by decide) (by omega)))
      simp [h, this, Nat.sub_add_cancel h]
  · have : i < n := by omega
    simp [h, this]

theorem andNot_nat (x n : Nat) (hx : x < 9223372036854775808) (hn : n ≤ 62) : bits .andNot .i64 (x : Int) ((2 ^ n - 1 : Nat) : Int) = ((x / 2 ^ n * 2 ^ n : Nat) : Int) := by
  have hp : 2 ^ n ≤ 2 ^ 62 := Nat.pow_le_pow_right (by decide) hn
  have hb : IntKind.i64.bits = 64 := rfl
  have h1 : BitVec.ofInt 64 (x : Int) = BitVec.ofNat 64 x := BitVec.ofInt_natCast 64 x
  have h2 : BitVec.ofInt 64 ((2 ^ n - 1 : Nat) : Int) = BitVec.ofNat 64 (2 ^ n - 1) := BitVec.ofInt_natCast 64 _
  have h3 : (BitVec.ofNat 64 x &&& ~~~(BitVec.ofNat 64 (2 ^ n - 1))).toNat = x / 2 ^ n * 2 ^ n := by
    rw [BitVec.toNat_and, BitVec.toNat_not, BitVec.toNat_ofNat, BitVec.toNat_ofNat, Nat.mod_eq_of_lt (by omega), Nat.mod_eq_of_lt (by omega)]
    exact clr x n (by omega) (by omega)
  have h4 : x / 2 ^ n * 2 ^ n ≤ x := Nat.div_mul_le_self x (2 ^ n)
  show IntKind.i64.wrap (((BitVec.ofInt 64 (x : Int)) &&& ~~~(BitVec.ofInt 64 ((2 ^ n - 1 : Nat) : Int))).toNat : Int) = _
  rw [h1, h2, h3]
  exact IntWalk.i64_in _ (by omega)

theorem andNot_up (A : Int) (n : Nat) (h0 : 0 ≤ A) (h1 : A ≤ 67108864) (hn : n ≤ 12) : bits .andNot .i64 (A + 2 ^ n - 1) (2 ^ n - 1) = (A + 2 ^ n - 1) / 2 ^ n * 2 ^ n := by
  obtain ⟨a, rfl⟩ : ∃ a : Nat, A = a := ⟨A.toNat, by omega⟩
  have hp : 2 ^ n ≤ 2 ^ 12 := Nat.pow_le_pow_right (by decide) hn
  have hp0 : 0 < 2 ^ n := Nat.two_pow_pos n
  have e : ((2 : Int) ^ n) = ((2 ^ n : Nat) : Int) := by simp
  have := andNot_nat (a + 2 ^ n - 1) n (by omega) (by omega)
  rw [e]
  have e1 : ((a : Int) + ((2 ^ n : Nat) : Int) - 1) = ((a + 2 ^ n - 1 : Nat) : Int) := by omega
  have e2 : (((2 ^ n : Nat) : Int) - 1) = ((2 ^ n - 1 : Nat) : Int) := by omega
  rw [e1, e2, this]
  simp
end Go.Proofs.Ytkjiiikcillcfaa
