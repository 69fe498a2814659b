/-
  For every row of names the table of them that the program builds is the document's: StrtabBuilds returns true, and its argument reads as it did. Conditions: none but the form's own.
-/
import Derived.Test.YtaophcndkhnbeaaLive
import Derived.Test.YtaophcndkhnbeaaWRef
import Derived.Test.YtaophcndkhnbeaaPlain2
namespace Go.Proofs.Ytaophcndkhnbeaa
open Go.RowKit

set_option maxHeartbeats 1000000 in
theorem builds_walk (w : World) (p : Option Addr) (c : Nat) (xs : List ByteArray) (hc : xs.length ≤ c) (hcm : c ≤ maxLen) (_ : p = none → c = 0) (hs : ∀ s ∈ xs, s.size ≤ 140737488351232)
    (hrow : Row w p (xs.map Value.string)) : Calls Try.prog 3 #[.slice p xs.length c] w fun e w' => e = .returned (.bool true) ∧ Below w.heap.size w w' := by
  have hm : xs.length ≤ 9223372036854775807 := by unfold maxLen at hcm; omega
  clear hcm
  have hs2 : ∀ s ∈ xs, s.size ≤ 9223372036854775807 := fun s h => by have := hs s h; omega
  cases hf : few xs with
  | false =>
    go_enter Try.func3, Try.ntmps3
    go_wp2_with (first
      | (go_at_call 8; refine (live_any _).mono ?_; rintro e w1 ⟨rfl, hb1⟩)
      | (go_at_call 9; refine (few_any _ _ _ _ hc hm hs2 (hrow.below hb1)).mono ?_; rintro e w2 ⟨rfl, rfl⟩; simp only [hf]))
    go_ret
    exact ⟨rfl, hb1⟩
  | true =>
    have hl := few_len xs hf
    have HBG := hid (few_big xs hf hs)
    have HE := hid (buildP_eq xs)
    have h1 : (buildP xs).1.length ≤ 1048576 := by
      unfold buildP
      split
      · simp
      · split
        · simp
        · exact (bst_tab_le xs).2
    have h2 : (buildP xs).2.1.length ≤ 100 := by
      unfold buildP
      split
      · simp
      · split
        · simp
        · show (bst xs).places.length ≤ 100
          rw [bst_places]; exact hl
    obtain ⟨B, hB⟩ : ∃ B, B = buildP xs := ⟨_, rfl⟩
    have HBP := hid hB
    rw [← hB] at h1 h2 HE
    obtain ⟨tab, pl, er⟩ := B
    clear hB
    dsimp only at h1 h2
    have hee : (er == er) = true := by simp
    go_enter Try.func3, Try.ntmps3
    go_wp2_with (first
      | (go_at_call 8; refine (live_any _).mono ?_; rintro e w1 ⟨rfl, hb1⟩; have hr1 := hrow.below hb1; have hsz1 := hb1.size)
      | (go_at_call 9; refine (few_any _ _ _ _ hc hm hs2 hr1).mono ?_; rintro e w2 ⟨rfl, rfl⟩; simp only [hf])
      | (go_at_call 10; refine (build_any _ _ _ _ (by omega) hs2 hr1).mono ?_; rw [← HBP.out]; rintro e w2 ⟨tv, pv, rfl, ht2, hp2, hb2⟩; have hb3 := hb1.trans (hb2.mono hsz1); have hr2 := hrow.below hb3; have hsz2 := hb2.size)
      | (go_at_call 11; refine (refbuild_any _ _ _ _ (by omega) hs2 HBG.out hr2).mono ?_; rw [← HE.out]; rintro e w3 ⟨tu, pu, rfl, ht3, hp3, hb4⟩; have hb5 := hb3.trans (hb4.mono (by omega)); obtain ⟨a1, c1, rfl, r1⟩ := own_shape ht2; obtain ⟨a2, c2, rfl, r2⟩ := own_shape hp2; obtain ⟨a3, c3, rfl, r3⟩ := own_shape ht3; obtain ⟨a4, c4, rfl, r4⟩ := own_shape hp3; have R1 := hid (r1.below hb4); have R2 := hid (r2.below hb4); have R3 := hid r3; have R4 := hid r4; clear r1 r2 r3 r4 ht2 hp2 ht3 hp3)
      | (go_at_call 12; go_loud (refine (bytesEq_any _ _ _ _ _ _ _ R1.out R3.out).mono ?_); rintro e w4 ⟨rfl, rfl⟩; simp only [beq_self_eq_true])
      | (go_at_call 13; go_loud (refine (intsEq_any _ _ _ _ _ _ _ R2.out R4.out (by omega) (by omega)).mono ?_); rintro e w4 ⟨rfl, q, rfl⟩; simp only [beq_self_eq_true]))
    go_ret
    exact ⟨rfl, below_drewN hb5 _⟩
end Go.Proofs.Ytaophcndkhnbeaa
