/-
  For every row of names: the table of them has one byte and each name once, and unlike names begin at unlike places: StrtabOnce returns true. Conditions: none but the form's own.
-/
import Derived.Test.YtaophcndkhnbeaaLive
import Derived.Test.YtaophcndkhnbeaaPlain3
namespace Go.Proofs.Ytaophcndkhnbeaa
open Go.RowKit

theorem contains_any (b off c : Nat) (xs : List ByteArray) (k : Nat) (w : World) (hk : k < xs.length) (hm : xs.length ≤ 1000000)
    (hcell : ∀ j (h : j < xs.length), w.cell? ⟨b, off + j, none⟩ = some (.string xs[j])) :
    Calls Try.prog 15 #[.slice (some ⟨b, off, none⟩) k c, .string xs[k]] w fun e w' => e = .returned (.bool (decide (firstOf xs xs[k] < k))) ∧ w = w' := by
  refine (Try.slices_Contains_string b off k c xs xs[k] w (by omega) (by omega) ?_).mono fun e w' ⟨he, hw⟩ => ⟨?_, hw.symm⟩
  · intro j hj
    rw [hcell j hj]
    simp [List.getD, hj]
  · rw [he]
    refine ret_bool ?_
    rw [Bool.eq_iff_iff, Lib.containsS_iff, decide_eq_true_eq]
    exact mem_take_iff xs k hk

theorem neBool_same (b : Bool) : (b != b) = false := by cases b <;> rfl

set_option maxRecDepth 100000 in
set_option maxHeartbeats 1000000 in
theorem once_walk (w : World) (p : Option Addr) (c : Nat) (xs : List ByteArray) (hc : xs.length ≤ c) (hcm : c ≤ maxLen) (_ : p = none → c = 0) (hs : ∀ s ∈ xs, s.size ≤ 140737488351232)
    (hrow : Row w p (xs.map Value.string)) : Calls Try.prog 5 #[.slice p xs.length c] w fun e w' => e = .returned (.bool true) ∧ Below w.heap.size w w' := by
  have hm : xs.length ≤ 9223372036854775807 := by unfold maxLen at hcm; omega
  clear hcm
  have hs2 : ∀ s ∈ xs, s.size ≤ 9223372036854775807 := fun s h => by have := hs s h; omega
  clear hs
  cases hf : few xs with
  | false =>
    go_enter Try.func5, Try.ntmps5
    go_wp2_with (first
      | (go_at_call 8; refine (live_any _).mono ?_; rintro e w1 ⟨rfl, hb1⟩)
      | (go_at_call 9; refine (few_any _ _ _ _ hc hm hs2 (hrow.below hb1)).mono ?_; rintro e w2 ⟨rfl, rfl⟩; simp only [hf]))
    go_ret
    exact ⟨rfl, hb1⟩
  | true =>
    have hl := few_len xs hf
    by_cases he : (buildP xs).2.2 = 0
    · obtain ⟨_, hlong, hb⟩ := buildP_ok xs he
      obtain ⟨t1, t2⟩ := tie xs xs.length (Nat.le_refl _)
      have hrl : rlong xs xs.length = false := by
        cases h : rlong xs xs.length with
        | false => rfl
        | true => have := t1 h; rw [List.take_length] at this; rw [this] at hlong; cases hlong
      have T := t2 hrl
      have hb2 : buildP xs = ((rst xs xs.length).1, (rst xs xs.length).2, 0) := by
        rw [hb]
        have a1 := T.tab
        have a2 := T.places
        rw [List.take_length] at a1 a2
        rw [a1, a2]
      have HB := hid hb2
      have hll : lenAt xs xs.length ≤ 1048576 := rst_tab_le xs xs.length hrl
      have hpl := rst_places xs xs.length
      have PLC := hid (rst_place xs xs.length (Nat.le_refl _))
      clear he hlong hb t1 t2 hrl T hb2
      obtain ⟨tb, htb⟩ : ∃ tb, tb = (rst xs xs.length).1 := ⟨_, rfl⟩
      obtain ⟨pl, hplc⟩ : ∃ pl, pl = (rst xs xs.length).2 := ⟨_, rfl⟩
      rw [← htb, ← hplc] at HB
      rw [← hplc] at hpl PLC
      have htl : tb.length = lenAt xs xs.length := by rw [htb]; rfl
      have HTL := hid htl
      have HPL := hid hpl
      have hpl2 : pl.length ≤ 100 := by omega
      have htl2 : tb.length ≤ 1048576 := by omega
      have hpe : ((pl.length : Int) != xs.length) = false := by rw [hpl]; simp
      clear htb hplc htl hpl
      go_enter Try.func5, Try.ntmps5
      go_wp2_with (first
        | (go_at_call 8; refine (live_any _).mono ?_; rintro e w1 ⟨rfl, hb1⟩; have hr1 := hrow.below hb1; have hsz1 := hb1.size)
        | (go_at_call 9; refine (few_any _ _ _ _ hc hm hs2 hr1).mono ?_; rintro e w2 ⟨rfl, rfl⟩; simp only [hf])
        | (go_at_call 10; refine (build_any _ _ _ _ (by omega) hs2 hr1).mono ?_; rw [HB.out]; rintro e w2 ⟨tv, pv, rfl, ht2, hp2, hb2⟩; have hb3 := hb1.trans (hb2.mono hsz1); have hr2 := hrow.below hb3; obtain ⟨a1, c1, rfl, r1⟩ := own_shape ht2; obtain ⟨a2, c2, rfl, hc2, _, r2, _⟩ := own_row hp2; have HR2 := hid r2; have HRN := hid hr2; clear ht2 hp2 r1 r2 hr2 hr1))
      go_loopw [6, 30] (fun n i wr => ∃ k q : Nat, k ≤ xs.length ∧ i = .int .i64 k ∧ n = .int .i64 (lenAt xs k) ∧ wr = w2.drewN q) (fun _ i _ => xs.length - (intOf i).toNat)
      case atStart => exact ⟨0, 0, Nat.zero_le _, rfl, rfl, rfl⟩
      case round =>
        obtain ⟨k, q, hk, rfl, rfl, rfl⟩ := hrel
        by_cases hkl : k < xs.length
        · obtain ⟨b, off, rfl, _, hcell0⟩ := HRN.out.at (by simp; omega)
          obtain ⟨pb, po, rfl, _, hpc0⟩ := HR2.out.at (by have := HPL.out; simp; omega)
          have hcell : ∀ j (h : j < xs.length), w2.cell? ⟨b, off + j, none⟩ = some (.string xs[j]) := fun j h => by
            have := hcell0 j (by simpa using h); simpa using this
          have hpc : ∀ j (h : j < pl.length), w2.cell? ⟨pb, po + j, none⟩ = some (.int .i64 pl[j]) := fun j h => by
            have := hpc0 j (by simpa using h); simpa using this
          clear hcell0 hpc0
          have CC := hid (fun q : Nat => contains_any b off c xs k (w2.drewN q) hkl (by omega) hcell)
          have hck := hcell k hkl
          have HCE := hid hcell
          have hpk := hpc k (by have := HPL.out; omega)
          have HPC := hid hpc
          clear hcell hpc
          have LS := hid (lenAt_succ xs k hkl)
          have hm1 := lenAt_mono xs (k + 1) xs.length (by omega) (Nat.le_refl _)
          have hm2 := lenAt_mono xs k xs.length (by omega) (Nat.le_refl _)
          have hkp : k < pl.length := by have := HPL.out; omega
          have hpx : pl.length = xs.length := HPL.out
          have hpx1 : pl.length ≤ xs.length := by omega
          have hpx2 : xs.length ≤ pl.length := by omega
          have hsz := hs2 _ (List.getElem_mem hkl)
          clear hpx
          obtain ⟨s, hsk⟩ : ∃ s, s = xs[k] := ⟨_, rfl⟩
          obtain ⟨vk, hvk⟩ : ∃ v, v = pl[k] := ⟨_, rfl⟩
          rw [← hsk] at hck LS CC hsz
          rw [← hvk] at hpk
          have HSK := hid hsk
          have HVK := hid hvk
          clear hsk hvk
          obtain ⟨L1, hL1⟩ : ∃ L1, L1 = lenAt xs (k + 1) := ⟨_, rfl⟩
          obtain ⟨L, hL⟩ : ∃ L, L = lenAt xs k := ⟨_, rfl⟩
          rw [← hL1] at LS hm1
          rw [← hL] at LS hm2 ⊢
          have HL1 := hid hL1
          clear hL1 hL
          by_cases hse : s = ByteArray.empty
          · have HN : Hid (L1 = L) := by have := LS.out; simp [hse] at this; exact this
            clear LS
            have HSE := hid hse
            have hst : s.toList = [] := by rw [hse, ByteArray.toList_eq]; rfl
            clear hse
            go_wp2_with fail
            clear hst
            go_loopw [51] (fun j wr => ∃ jj q : Nat, jj ≤ k ∧ j = .int .i64 jj ∧ wr = w2.drewN q) (fun j _ => k - (intOf j).toNat)
            case atStart => exact ⟨0, _, Nat.zero_le _, rfl, rfl⟩
            case round =>
              obtain ⟨j, q2, hjk, rfl, rfl⟩ := hrel
              by_cases hjl : j < k
              · have hcj := HCE.out j (by omega)
                have hpj := HPC.out j (by omega)
                have INJ := hid (place_inj xs k j hkl (by omega))
                have PJ := hid (PLC.out j (by omega))
                have PK := hid (PLC.out k hkl)
                obtain ⟨y, hy⟩ : ∃ y, y = xs[j] := ⟨_, rfl⟩
                obtain ⟨vj, hvj⟩ : ∃ v, v = pl[j]'(by omega) := ⟨_, rfl⟩
                have HVE : Hid ((vk = vj) ↔ (s = y)) := by
                  have e1 : pl.getD j 0 = vj := by rw [hvj]; simp [List.getD, show j < pl.length by omega]
                  have e2 : pl.getD k 0 = vk := by rw [HVK.out]; simp [List.getD, show k < pl.length by omega]
                  have e3 : xs.getD j ByteArray.empty = xs[j] := by simp [show j < xs.length by omega]
                  have e4 : xs.getD k ByteArray.empty = xs[k] := by simp [hkl]
                  have i1 := INJ.out
                  have i2 := PJ.out
                  have i3 := PK.out
                  rw [e1, e3] at i2
                  rw [e2, e4] at i3
                  simp only [Hid]
                  rw [i2, i3, HSK.out, hy]
                  exact i1
                rw [← hy] at hcj
                rw [← hvj] at hpj
                have b1 : (j : Int) < xs.length := by omega
                have b2 : (k : Int) < xs.length := by omega
                have b3 : (j : Int) < pl.length := by omega
                have b4 : (k : Int) < pl.length := by omega
                clear hy hvj INJ PJ PK
                by_cases hsy : s = y
                · have t1 := strEq hsy
                  have t2 : (vk == vj) = true := by rw [beq_iff_eq]; exact HVE.out.2 hsy
                  clear hsy
                  go_wp2_with fail
                  go_quiet (fail)
                  go_wp2_with fail
                  go_roundw
                  case rel => exact ⟨j + 1, _, by omega, by go_num, rfl⟩
                  case measure => simp [intOf]; omega
                · have t1 := strNe hsy
                  have t2 : (vk == vj) = false := by rw [beq_eq_false_iff_ne]; exact fun e => hsy (HVE.out.1 e)
                  clear hsy
                  go_wp2_with fail
                  go_quiet (fail)
                  go_wp2_with fail
                  go_roundw
                  case rel => exact ⟨j + 1, _, by omega, by go_num, rfl⟩
                  case measure => simp [intOf]; omega
              · go_wp2_with fail
                go_roundw
                case rel => exact ⟨k + 1, _, by omega, by go_num, (by rw [← HL1.out, HN.out]), rfl⟩
                case measure => simp [intOf]; omega
          · have hst : ¬ s.toList = [] := by
              rw [ByteArray.toList_eq]
              intro hl
              exact absurd (by cases s; simp at hl; simp [hl]; rfl) hse
            have hst2 : s.toList.isEmpty = false := by simpa using hst
            by_cases hff : firstOf xs s < k
            · have HN : Hid (L1 = L) := by have := LS.out; simp [hff] at this; exact this
              have hfd : decide (firstOf xs s < k) = true := by simpa using hff
              clear LS hse hff
              go_wp2_with (go_at_call 15; refine (CC.out q).mono ?_; rintro e w' ⟨rfl, rfl⟩; simp only [hfd])
              clear hst hst2
              go_loopw [51] (fun j wr => ∃ jj q : Nat, jj ≤ k ∧ j = .int .i64 jj ∧ wr = w2.drewN q) (fun j _ => k - (intOf j).toNat)
              case atStart => exact ⟨0, _, Nat.zero_le _, rfl, rfl⟩
              case round =>
                obtain ⟨j, q2, hjk, rfl, rfl⟩ := hrel
                by_cases hjl : j < k
                · have hcj := HCE.out j (by omega)
                  have hpj := HPC.out j (by omega)
                  have INJ := hid (place_inj xs k j hkl (by omega))
                  have PJ := hid (PLC.out j (by omega))
                  have PK := hid (PLC.out k hkl)
                  obtain ⟨y, hy⟩ : ∃ y, y = xs[j] := ⟨_, rfl⟩
                  obtain ⟨vj, hvj⟩ : ∃ v, v = pl[j]'(by omega) := ⟨_, rfl⟩
                  have HVE : Hid ((vk = vj) ↔ (s = y)) := by
                    have e1 : pl.getD j 0 = vj := by rw [hvj]; simp [List.getD, show j < pl.length by omega]
                    have e2 : pl.getD k 0 = vk := by rw [HVK.out]; simp [List.getD, show k < pl.length by omega]
                    have e3 : xs.getD j ByteArray.empty = xs[j] := by simp [show j < xs.length by omega]
                    have e4 : xs.getD k ByteArray.empty = xs[k] := by simp [hkl]
                    have i1 := INJ.out
                    have i2 := PJ.out
                    have i3 := PK.out
                    rw [e1, e3] at i2
                    rw [e2, e4] at i3
                    simp only [Hid]
                    rw [i2, i3, HSK.out, hy]
                    exact i1
                  rw [← hy] at hcj
                  rw [← hvj] at hpj
                  have b1 : (j : Int) < xs.length := by omega
                  have b2 : (k : Int) < xs.length := by omega
                  have b3 : (j : Int) < pl.length := by omega
                  have b4 : (k : Int) < pl.length := by omega
                  clear hy hvj INJ PJ PK
                  by_cases hsy : s = y
                  · have t1 := strEq hsy
                    have t2 : (vk == vj) = true := by rw [beq_iff_eq]; exact HVE.out.2 hsy
                    clear hsy
                    go_wp2_with fail
                    go_quiet (fail)
                    go_wp2_with fail
                    go_roundw
                    case rel => exact ⟨j + 1, _, by omega, by go_num, rfl⟩
                    case measure => simp [intOf]; omega
                  · have t1 := strNe hsy
                    have t2 : (vk == vj) = false := by rw [beq_eq_false_iff_ne]; exact fun e => hsy (HVE.out.1 e)
                    clear hsy
                    go_wp2_with fail
                    go_quiet (fail)
                    go_wp2_with fail
                    go_roundw
                    case rel => exact ⟨j + 1, _, by omega, by go_num, rfl⟩
                    case measure => simp [intOf]; omega
                · go_wp2_with fail
                  go_roundw
                  case rel => exact ⟨k + 1, _, by omega, by go_num, (by rw [← HL1.out, HN.out]), rfl⟩
                  case measure => simp [intOf]; omega
            · have HN : Hid (L1 = L + (s.size + 1)) := by have := LS.out; rw [if_pos ⟨hse, hff⟩] at this; exact this
              have hfd : decide (firstOf xs s < k) = false := by simpa using hff
              have hLb : L + (s.size + 1) ≤ 1048576 := by have := HN.out; omega
              clear LS hse hff
              go_wp2_with (go_at_call 15; refine (CC.out q).mono ?_; rintro e w' ⟨rfl, rfl⟩; simp only [hfd])
              clear hst hst2
              go_loopw [51] (fun j wr => ∃ jj q : Nat, jj ≤ k ∧ j = .int .i64 jj ∧ wr = w2.drewN q) (fun j _ => k - (intOf j).toNat)
              case atStart => exact ⟨0, _, Nat.zero_le _, rfl, rfl⟩
              case round =>
                obtain ⟨j, q2, hjk, rfl, rfl⟩ := hrel
                by_cases hjl : j < k
                · have hcj := HCE.out j (by omega)
                  have hpj := HPC.out j (by omega)
                  have INJ := hid (place_inj xs k j hkl (by omega))
                  have PJ := hid (PLC.out j (by omega))
                  have PK := hid (PLC.out k hkl)
                  obtain ⟨y, hy⟩ : ∃ y, y = xs[j] := ⟨_, rfl⟩
                  obtain ⟨vj, hvj⟩ : ∃ v, v = pl[j]'(by omega) := ⟨_, rfl⟩
                  have HVE : Hid ((vk = vj) ↔ (s = y)) := by
                    have e1 : pl.getD j 0 = vj := by rw [hvj]; simp [List.getD, show j < pl.length by omega]
                    have e2 : pl.getD k 0 = vk := by rw [HVK.out]; simp [List.getD, show k < pl.length by omega]
                    have e3 : xs.getD j ByteArray.empty = xs[j] := by simp [show j < xs.length by omega]
                    have e4 : xs.getD k ByteArray.empty = xs[k] := by simp [hkl]
                    have i1 := INJ.out
                    have i2 := PJ.out
                    have i3 := PK.out
                    rw [e1, e3] at i2
                    rw [e2, e4] at i3
                    simp only [Hid]
                    rw [i2, i3, HSK.out, hy]
                    exact i1
                  rw [← hy] at hcj
                  rw [← hvj] at hpj
                  have b1 : (j : Int) < xs.length := by omega
                  have b2 : (k : Int) < xs.length := by omega
                  have b3 : (j : Int) < pl.length := by omega
                  have b4 : (k : Int) < pl.length := by omega
                  clear hy hvj INJ PJ PK
                  by_cases hsy : s = y
                  · have t1 := strEq hsy
                    have t2 : (vk == vj) = true := by rw [beq_iff_eq]; exact HVE.out.2 hsy
                    clear hsy
                    go_wp2_with fail
                    go_quiet (fail)
                    go_wp2_with fail
                    go_roundw
                    case rel => exact ⟨j + 1, _, by omega, by go_num, rfl⟩
                    case measure => simp [intOf]; omega
                  · have t1 := strNe hsy
                    have t2 : (vk == vj) = false := by rw [beq_eq_false_iff_ne]; exact fun e => hsy (HVE.out.1 e)
                    clear hsy
                    go_wp2_with fail
                    go_quiet (fail)
                    go_wp2_with fail
                    go_roundw
                    case rel => exact ⟨j + 1, _, by omega, by go_num, rfl⟩
                    case measure => simp [intOf]; omega
                · go_wp2_with fail
                  go_roundw
                  case rel => exact ⟨k + 1, _, by omega, by go_num, (by rw [← HL1.out, HN.out]; go_num), rfl⟩
                  case measure => simp [intOf]; omega
        · have hkx : k = xs.length := by omega
          have htl3 : ((tb.length : Int) == lenAt xs k) = true := by rw [hkx, HTL.out]; simp
          clear hkx
          go_wp2_with fail
          go_ret
          exact ⟨rfl, below_drewN hb3 q⟩
    · have hne : ((buildP xs).2.2 != 0) = true := by simpa using he
      obtain ⟨B, hB⟩ : ∃ B, B = buildP xs := ⟨_, rfl⟩
      have HB := hid hB
      rw [← hB] at hne
      obtain ⟨ta, pa, ea⟩ := B
      clear hB he
      dsimp only at hne
      go_enter Try.func5, Try.ntmps5
      go_wp2_with (first
        | (go_at_call 8; refine (live_any _).mono ?_; rintro e w1 ⟨rfl, hb1⟩; have hr1 := hrow.below hb1; have hsz1 := hb1.size)
        | (go_at_call 9; refine (few_any _ _ _ _ hc hm hs2 hr1).mono ?_; rintro e w2 ⟨rfl, rfl⟩; simp only [hf])
        | (go_at_call 10; refine (build_any _ _ _ _ (by omega) hs2 hr1).mono ?_; rw [← HB.out]; rintro e w2 ⟨tv, pv, rfl, ht2, hp2, hb2⟩; have hb3 := hb1.trans (hb2.mono hsz1); clear ht2 hp2))
      go_ret
      exact ⟨rfl, hb3⟩
end Go.Proofs.Ytaophcndkhnbeaa
