/-
  For every row of names and every number n: the table of the first n of them is a beginning of the table of all: StrtabBegins returns true. Conditions: none but the form's own.
-/
import Derived.Test.YtaophcndkhnbeaaLive
import Derived.Test.YtaophcndkhnbeaaPlain3
namespace Go.Proofs.Ytaophcndkhnbeaa
open Go.RowKit

theorem hasPrefix_any (p q : Option Addr) (c d : Nat) (l m : List UInt8) (w : World) (hc : l.length ≤ c) (h1 : Row w p (u8s l)) (h2 : Row w q (u8s m)) :
    Calls Try.prog 14 #[.slice p l.length c, .slice q m.length d] w fun e w' => e = .returned (.bool (m.isPrefixOf l)) ∧ w = w' := by
  refine (Try.bytes_HasPrefix_all p q l.length c m.length d _ _ w (by simp) (by simp) hc (row_bytesIn h1) (row_bytesIn h2)).mono fun e w' ⟨he, hw⟩ => ⟨?_, hw.symm⟩
  rw [he, bytesOf_nums, bytesOf_nums]; rfl

theorem i64s_take (l : List Int) (k : Nat) : i64s (l.take k) = (i64s l).take k := by simp [i64s]

set_option maxRecDepth 100000 in
set_option maxHeartbeats 1000000 in
theorem begins_walk (w : World) (p : Option Addr) (c : Nat) (xs : List ByteArray) (hc : xs.length ≤ c) (hcm : c ≤ maxLen) (_ : p = none → c = 0) (hs : ∀ s ∈ xs, s.size ≤ 140737488351232)
    (hrow : Row w p (xs.map Value.string)) (a : Int) (wa : (Lit.int .u8 a).wf = true) : Calls Try.prog 4 #[.slice p xs.length c, .int .u8 a] w fun e w' => e = .returned (.bool true) ∧ Below w.heap.size w w' := by
  have hm : xs.length ≤ 9223372036854775807 := by unfold maxLen at hcm; omega
  have hab : 0 ≤ a ∧ a ≤ 255 := by simpa [Lit.wf, IntKind.min, IntKind.max, IntKind.signed, IntKind.bits] using wa
  clear hcm wa
  have hs2 : ∀ s ∈ xs, s.size ≤ 9223372036854775807 := fun s h => by have := hs s h; omega
  clear hs
  obtain ⟨n, rfl⟩ : ∃ n : Nat, a = n := ⟨a.toNat, by omega⟩
  obtain ⟨hab1, hab2⟩ := hab
  cases hf : few xs with
  | false =>
    go_enter Try.func4, Try.ntmps4
    go_wp2_with (first
      | (go_at_call 8; refine (live_any _).mono ?_; rintro e w1 ⟨rfl, hb1⟩)
      | (go_at_call 9; refine (few_any _ _ _ _ hc hm hs2 (hrow.below hb1)).mono ?_; rintro e w2 ⟨rfl, rfl⟩; simp only [hf]))
    go_ret
    exact ⟨rfl, hb1⟩
  | true =>
    have hl := few_len xs hf
    have bnd : ∀ ys : List ByteArray, ys.length ≤ 100 → (buildP ys).1.length ≤ 1048576 ∧ (buildP ys).2.1.length ≤ 100 := fun ys hy => by
      unfold buildP
      split
      · simp
      · split
        · simp
        · exact ⟨(bst_tab_le ys).2, by show (bst ys).places.length ≤ 100; rw [bst_places]; exact hy⟩
    have key : ∀ k, k ≤ xs.length → min (n : Int) xs.length = k → Calls Try.prog 4 #[.slice p xs.length c, .int .u8 n] w fun e w' => e = .returned (.bool true) ∧ Below w.heap.size w w' := by
      intro k hkl hmin
      have hk1 : (xs.take k).length = k := by simp; omega
      have hk2 : k ≤ c := by omega
      have HRT : ∀ W, Row W p (xs.map Value.string) → Row W p ((xs.take k).map Value.string) := fun W h => by
        have := h.take k
        rw [← List.map_take] at this
        exact this
      have CA := hid (fun W (h : Row W p (xs.map Value.string)) => build_any p c (xs.take k) W (by omega) (fun s (h : s ∈ xs.take k) => hs2 s (List.mem_of_mem_take h)) (HRT W h))
      clear HRT
      have PT := hid (buildP_take xs k hkl)
      have bA := bnd (xs.take k) (by omega)
      have bB := bnd xs hl
      have PL : Hid ((buildP xs).2.2 = 0 → (buildP xs).2.1.length = xs.length) := fun h => by
        obtain ⟨_, _, h3⟩ := buildP_ok xs h
        rw [h3]; exact bst_places xs
      rw [hk1] at CA
      obtain ⟨A, hA⟩ : ∃ A, A = buildP (xs.take k) := ⟨_, rfl⟩
      obtain ⟨B, hB⟩ : ∃ B, B = buildP xs := ⟨_, rfl⟩
      rw [← hA] at bA PT CA
      rw [← hB] at bB PT PL
      have HB := hid hB
      obtain ⟨ta, pa, ea⟩ := A
      obtain ⟨tb, pb, eb⟩ := B
      clear hA hB bnd hk1
      dsimp only at bA bB
      obtain ⟨bA1, bA2⟩ := bA
      obtain ⟨bB1, bB2⟩ := bB
      · by_cases he : eb = 0
        · subst he
          obtain ⟨he, hpre, hpl⟩ := PT.out rfl
          dsimp only at he hpre hpl
          subst he
          have hpb : pb.length = xs.length := PL.out rfl
          have HPL := hid hpl
          have hpre2 : ta.isPrefixOf tb = true := by rwa [List.isPrefixOf_iff_prefix]
          have HPB := hid hpb
          have hge : xs.length ≤ pb.length := by omega
          clear PT PL hpl hpre hpb
          go_enter Try.func4, Try.ntmps4
          go_wp2_with (first
            | (go_at_call 8; refine (live_any _).mono ?_; rintro e w1 ⟨rfl, hb1⟩; have hr1 := hrow.below hb1; have hsz1 := hb1.size)
            | (go_at_call 9; refine (few_any _ _ _ _ hc hm hs2 hr1).mono ?_; rintro e w2 ⟨rfl, rfl⟩; simp only [hf]))
          refine (CA.out _ hr1).mono ?_
          rintro e w2 ⟨tv, pv, rfl, ht2, hp2, hb2⟩
          have hb3 := hb1.trans (hb2.mono hsz1)
          have hr2 := hrow.below hb3
          have hsz2 := hb2.size
          go_wp2_with fail
          refine (build_any _ _ _ _ (by omega) hs2 hr2).mono ?_
          rw [← HB.out]
          rintro e w3 ⟨tu, pu, rfl, ht3, hp3, hb4⟩
          have hb5 := hb3.trans (hb4.mono (by omega))
          obtain ⟨a1, c1, rfl, r1⟩ := own_shape ht2
          obtain ⟨a2, c2, rfl, r2⟩ := own_shape hp2
          obtain ⟨a3, c3, rfl, hc3, _, r3, _⟩ := own_row ht3
          obtain ⟨a4, c4, rfl, hc4, _, r4, _⟩ := own_row hp3
          have R1 := hid (r1.below hb4)
          have R2 := hid (r2.below hb4)
          have R3 := hid r3
          have R4 := hid r4
          clear r1 r2 r3 r4 ht2 hp2 ht3 hp3
          dsimp only at hc3 hc4
          have hkp : k ≤ pb.length := by omega
          have hkc : pb.length ≤ 100 := bB2
          have RT := hid (show Row w3 a4 (i64s pa) from by rw [HPL.out, i64s_take]; exact R4.out.take k)
          have hlk : pa.length = k := by rw [HPL.out]; simp; omega
          have HLK := hid hlk
          have RI := hid (fun (W : World) (h : Row W a4 (i64s pa)) (h2 : Row W a2 (i64s pa)) => intsEq_any a2 a4 c2 c4 pa pa W h2 h (by omega) (by omega))
          rw [hlk] at RI
          clear hlk
          go_wp2_with (first
            | (go_at_call 14; go_loud (refine (hasPrefix_any _ _ _ _ _ _ _ hc3 R3.out R1.out).mono ?_); rintro e w4 ⟨rfl, rfl⟩; simp only [hpre2]))
          rw [HLK.out]
          refine (RI.out _ RT.out R2.out).mono ?_
          rintro e w4 ⟨rfl, q, rfl⟩
          simp only [beq_self_eq_true]
          go_wp2_with fail
          go_ret
          exact ⟨rfl, below_drewN hb5 q⟩
        · have hne : (eb != 0) = true := by simpa using he
          clear PT PL he
          go_enter Try.func4, Try.ntmps4
          go_wp2_with (first
            | (go_at_call 8; refine (live_any _).mono ?_; rintro e w1 ⟨rfl, hb1⟩; have hr1 := hrow.below hb1; have hsz1 := hb1.size)
            | (go_at_call 9; refine (few_any _ _ _ _ hc hm hs2 hr1).mono ?_; rintro e w2 ⟨rfl, rfl⟩; simp only [hf]))
          refine (CA.out _ hr1).mono ?_
          rintro e w2 ⟨tv, pv, rfl, ht2, hp2, hb2⟩
          have hb3 := hb1.trans (hb2.mono hsz1)
          have hr2 := hrow.below hb3
          have hsz2 := hb2.size
          go_wp2_with fail
          refine (build_any _ _ _ _ (by omega) hs2 hr2).mono ?_
          rw [← HB.out]
          rintro e w3 ⟨tu, pu, rfl, ht3, hp3, hb4⟩
          have hb5 := hb3.trans (hb4.mono (by omega))
          clear ht2 hp2 ht3 hp3
          go_wp2_with fail
          go_ret
          exact ⟨rfl, hb5⟩
    exact key (min n xs.length) (by omega) (by omega)
end Go.Proofs.Ytaophcndkhnbeaa
