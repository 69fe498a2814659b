/-
  The walks of reaches, the program's and the document's.
-/
import Derived.Test.YtkjiiikcillcfaaOff3
namespace Go.Proofs.Ytkjiiikcillcfaa
open Go.RowKit

/-- Whether a branch at item n reaches, by where items begin. -/
def reachP (x : It) (n : Nat) (A : List Int) : Bool := within (A.getD x.to.toNat 0 + x.add - A.getD n 0) x.lo x.hi

/-- What the walk of reaches leans on. -/
structure ReachOk (x : It) (n : Nat) (A : List Int) : Prop where
  to0 : 0 ≤ x.to
  to1 : x.to.toNat < A.length
  n1 : n < A.length
  add0 : -1073741824 ≤ x.add
  add1 : x.add ≤ 1073741824
  bd : ∀ a ∈ A, 0 ≤ a ∧ a ≤ 67108864

set_option maxHeartbeats 1000000 in
theorem reaches_any (x : It) (n : Nat) (p : Option Addr) (c : Nat) (A : List Int) (w : World) (hk : ReachOk x n A) (hrow : Row w p (i64s A)) (hm : A.length ≤ 1000000) (L : Nat) (hL : L = A.length) :
    Calls Try.prog 36 #[x.val, i64 n, .slice p L c] w fun e w' => e = .returned (.bool (reachP x n A)) ∧ Below w.heap.size w w' := by
  obtain ⟨to0, to1, n1, add0, add1, bd⟩ := hk
  obtain ⟨kind, size, al, to, add, lo, hi⟩ := x
  dsimp only at to0 to1 add0 add1
  obtain ⟨t, rfl⟩ : ∃ t : Nat, to = t := ⟨to.toNat, by omega⟩
  simp only [Int.toNat_natCast] at to1
  obtain ⟨b, o, rfl, hbs, hzz⟩ := hrow.at (by simp; omega)
  clear hzz
  have ht := hrow.cell t (by simpa using to1)
  have hn := hrow.cell n (by simpa using n1)
  simp only [i64s, List.getElem_map] at ht hn
  have bt := bd _ (List.getElem_mem to1)
  have bn := bd _ (List.getElem_mem n1)
  have HP : Hid (reachP ⟨kind, size, al, t, add, lo, hi⟩ n A = within (A[t] + add - A[n]) lo hi) := by simp [Hid, reachP, List.getD, to1, n1]
  obtain ⟨T, hT⟩ : ∃ T, T = A[t] := ⟨_, rfl⟩
  obtain ⟨N, hN⟩ : ∃ N, N = A[n] := ⟨_, rfl⟩
  rw [← hT, ← hN] at HP
  rw [← hT] at bt ht
  rw [← hN] at bn hn
  obtain ⟨bt1, bt2⟩ := bt
  obtain ⟨bn1, bn2⟩ := bn
  clear hT hN bd to0
  rw [← hL] at to1 n1 hm
  clear hL
  unfold It.val
  dsimp only
  go_enter Try.func36, Try.ntmps36
  go_wp2_with fail
  go_quiet ((go_at_call 42; exact Calls.quiet_of_same ((within_any _ _ _ _).mono fun _ _ ⟨h1, h2⟩ => ⟨h1, h2.symm⟩)))
  go_wp2_with fail
  go_ret
  exact ⟨ret_bool (by rw [HP.out]), below_drewN ((Below.refl _ _).alloc (Nat.le_refl _) _) _⟩

set_option maxHeartbeats 1000000 in
theorem rreaches_any (x : It) (n : Nat) (p : Option Addr) (c : Nat) (A : List Int) (w : World) (hk : ReachOk x n A) (hrow : Row w p (i64s A)) (hm : A.length ≤ 1000000) (L : Nat) (hL : L = A.length) :
    Calls Try.prog 37 #[x.val, .slice p L c, i64 n] w fun e w' => e = .returned (.bool (reachP x n A)) ∧ Below w.heap.size w w' := by
  obtain ⟨to0, to1, n1, add0, add1, bd⟩ := hk
  obtain ⟨kind, size, al, to, add, lo, hi⟩ := x
  dsimp only at to0 to1 add0 add1
  obtain ⟨t, rfl⟩ : ∃ t : Nat, to = t := ⟨to.toNat, by omega⟩
  simp only [Int.toNat_natCast] at to1
  obtain ⟨b, o, rfl, hbs, hzz⟩ := hrow.at (by simp; omega)
  clear hzz
  have ht := hrow.cell t (by simpa using to1)
  have hn := hrow.cell n (by simpa using n1)
  simp only [i64s, List.getElem_map] at ht hn
  have bt := bd _ (List.getElem_mem to1)
  have bn := bd _ (List.getElem_mem n1)
  have HP : Hid (reachP ⟨kind, size, al, t, add, lo, hi⟩ n A = within (A[t] + add - A[n]) lo hi) := by simp [Hid, reachP, List.getD, to1, n1]
  obtain ⟨T, hT⟩ : ∃ T, T = A[t] := ⟨_, rfl⟩
  obtain ⟨N, hN⟩ : ∃ N, N = A[n] := ⟨_, rfl⟩
  rw [← hT, ← hN] at HP
  rw [← hT] at bt ht
  rw [← hN] at bn hn
  obtain ⟨bt1, bt2⟩ := bt
  obtain ⟨bn1, bn2⟩ := bn
  clear hT hN bd to0
  rw [← hL] at to1 n1 hm
  clear hL
  unfold It.val
  dsimp only
  go_enter Try.func37, Try.ntmps37
  go_wp2_with fail
  go_region
  go_wp2_with fail
  all_goals go_ret
  all_goals refine ⟨ret_bool ?_, ((Below.refl _ _).alloc (Nat.le_refl _) _).drew⟩
  all_goals simp_all [Hid, within]
  all_goals omega
end Go.Proofs.Ytkjiiikcillcfaa
