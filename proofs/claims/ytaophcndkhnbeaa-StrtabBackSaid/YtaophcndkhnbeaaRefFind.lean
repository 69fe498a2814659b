/-
  The document's Find and At.
-/
import Derived.Test.YtaophcndkhnbeaaRefChk
import Derived.Test.YtaophcndkhnbeaaFindN
import Derived.Test.YtaophcndkhnbeaaAtN
namespace Go.Proofs.Ytaophcndkhnbeaa
open Go.RowKit

theorem findC_ok (tab : List UInt8) (name : ByteArray) (hk : chkC tab = 0) : findC tab name = match findRow (rowsP tab) name with | some v => (v, true) | none => (0, decide (name = ByteArray.empty)) := by
  unfold findC
  rw [if_neg (by simp [hk])]
  by_cases he : name = ByteArray.empty
  · rw [if_pos he]
    have hn := (chk_ends tab hk).2.1
    have : findRow (rowsP tab) name = none := by
      rw [findRow_none]
      intro h
      rw [he] at h
      exact (List.nodup_cons.1 hn).1 h
    rw [this]
    simp [he]
  · rw [if_neg he]
    cases findRow (rowsP tab) name <;> simp [he]

set_option maxHeartbeats 1000000 in
theorem reffind_any (q : Option Addr) (c : Nat) (tab : List UInt8) (name : ByteArray) (w : World) (hqc : tab.length ≤ c) (hm : tab.length ≤ 1000000) (hrow : Row w q (u8s tab)) :
    Calls Try.prog 19 #[.slice q tab.length c, .string name] w fun e w' => e = .returned (.tuple #[.int .i64 (findC tab name).1, .bool (findC tab name).2]) ∧ Below w.heap.size w w' := by
  have HC := hid (refchk_any q c tab w hqc hm hrow)
  rw [← chk_eq] at HC
  have hrl := rowsP_len tab
  by_cases hk : chkC tab = 0
  · have hkn : (chkC tab != 0) = false := by rw [hk]; rfl
    have HF := hid (findC_ok tab name hk)
    clear hk
    go_enter Try.func19, Try.ntmps19
    go_wp2_with (first
      | (go_at_call 21; refine HC.out.mono ?_; rintro e w2 ⟨rfl, hb2⟩; have hz2 := hb2.size)
      | (go_at_call 31; refine (refrows_any q c tab _ hqc (by omega) (hrow.below hb2)).mono ?_; rintro e w3 ⟨v, rfl, ho, hb3⟩; obtain ⟨vp, vc, rfl, hvc, hvm, hvr, hvn, hvg⟩ := own_row ho))
    have hbw := hb2.trans (hb3.mono hz2)
    go_loopw [7] (fun i wr => ∃ k : Nat, k ≤ (rowsP tab).length ∧ i = .int .i64 k ∧ (∀ r ∈ (rowsP tab).take k, r.2 ≠ name) ∧ wr = w3) (fun i _ => (rowsP tab).length - (intOf i).toNat)
    case atStart => exact ⟨0, Nat.zero_le _, rfl, by simp, rfl⟩
    case round =>
      obtain ⟨k, hkl, rfl, hno, rfl⟩ := hrel
      have HNO := hid hno
      clear hno
      by_cases hlt : k < (rowsP tab).length
      · obtain ⟨b, o, rfl, _, _⟩ := hvr.at (by rw [rowCells_len]; omega)
        obtain ⟨c1, c2⟩ := rows_cells hvr k hlt
        have HT := hid (take_succ _ k hlt)
        have HD := hid (List.take_append_drop k (rowsP tab))
        have HG := hid (List.drop_eq_getElem_cons hlt)
        generalize (rowsP tab)[k] = r at *
        by_cases hx : r.2 = name
        · have e1 := strEq hx
          have HX := hid hx
          have HR : Hid (findC tab name = ((r.1 : Int), true)) := by
            show findC tab name = _
            rw [HF.out, ← HD.out, HG.out, findRow_pre _ r _ name HNO.out HX.out]
          clear hx
          go_wp2
          go_ret2
          rw [HR.out]
          exact ⟨rfl, hbw⟩
        · have e1 := strNe hx
          have HX := hid hx
          clear hx
          go_wp2
          go_roundw
          case rel => exact ⟨k + 1, by omega, by go_num, by
            intro y hy
            rw [HT.out] at hy
            rcases List.mem_append.1 hy with h | h
            · exact HNO.out y h
            · simp at h; subst h; exact HX.out, trivial⟩
          case measure => simp [intOf]; omega
      · have HN : Hid (findRow (rowsP tab) name = none) := by
          show findRow (rowsP tab) name = none
          rw [findRow_none]
          intro h
          obtain ⟨r, hr, e⟩ := List.mem_map.1 h
          exact HNO.out r (by rw [List.take_of_length_le (by omega)]; exact hr) e
        by_cases he : name = ByteArray.empty
        · have HR : Hid (findC tab name = (0, true)) := by
            show findC tab name = _
            rw [HF.out, HN.out]; simp [he]
          have hst : name.toList = [] := by rw [he, ByteArray.toList_eq]; rfl
          clear he
          go_wp2
          go_ret2
          rw [HR.out]
          exact ⟨rfl, hbw⟩
        · have HR : Hid (findC tab name = (0, false)) := by
            show findC tab name = _
            rw [HF.out, HN.out]; simp [he]
          have hst : ¬ name.toList = [] := by
            rw [ByteArray.toList_eq]
            intro hl
            exact absurd (by cases name; simp at hl; simp [hl]; rfl) he
          have hst2 : name.toList.isEmpty = false := by simpa using hst
          clear he
          go_wp2
          go_ret2
          rw [HR.out]
          exact ⟨rfl, hbw⟩
  · have hkn : (chkC tab != 0) = true := by rw [bne_iff_ne]; exact hk
    have HR : Hid (findC tab name = (0, false)) := if_pos hk
    clear hk
    go_enter Try.func19, Try.ntmps19
    go_wp2_with (go_at_call 21; refine HC.out.mono ?_; rintro e w2 ⟨rfl, hb2⟩)
    go_ret2
    rw [HR.out]
    exact ⟨rfl, hb2⟩

set_option maxHeartbeats 1000000 in
theorem refat_any (p : Option Addr) (c : Nat) (tab : List UInt8) (off : Int) (w : World) (hc : tab.length ≤ c) (hm : tab.length ≤ 1000000) (hrow : Row w p (u8s tab)) :
    Calls Try.prog 17 #[.slice p tab.length c, .int .i64 off] w fun e w' => e = .returned (.tuple #[.string (atC tab off).1, .int .i64 (atC tab off).2]) ∧ Below w.heap.size w w' := by
  have HC := hid (refchk_any p c tab w hc hm hrow)
  rw [← chk_eq] at HC
  by_cases hk : chkC tab = 0
  · have hkn : (chkC tab != 0) = false := by rw [hk]; rfl
    by_cases h1 : off < 0
    · have HR : Hid (atC tab off = (ByteArray.empty, 7)) := by show atC tab off = _; unfold atC; rw [if_neg (by simp [hk]), if_pos (.inl h1)]
      go_enter Try.func17, Try.ntmps17
      go_wp2_with (go_at_call 21; refine HC.out.mono ?_; rintro e w2 ⟨rfl, hb2⟩)
      go_ret2
      rw [HR.out]
      exact ⟨rfl, hb2⟩
    · by_cases h2 : (tab.length : Int) ≤ off
      · have HR : Hid (atC tab off = (ByteArray.empty, 7)) := by show atC tab off = _; unfold atC; rw [if_neg (by simp [hk]), if_pos (.inr h2)]
        go_enter Try.func17, Try.ntmps17
        go_wp2_with (go_at_call 21; refine HC.out.mono ?_; rintro e w2 ⟨rfl, hb2⟩)
        go_ret2
        rw [HR.out]
        exact ⟨rfl, hb2⟩
      · have HR : Hid (atC tab off = (⟨(upTo (tab.drop off.toNat)).toArray⟩, 0)) := by
          show atC tab off = _; unfold atC; rw [if_neg (by simp [hk]), if_neg (by omega)]
        obtain ⟨k, rfl⟩ : ∃ k : Nat, off = k := ⟨off.toNat, by omega⟩
        rw [Int.toNat_natCast] at HR
        have hkl : k < tab.length := by omega
        rcases idx_split (tab.drop k) with ⟨i1, i2⟩ | ⟨m, i1, i2, i3, i4⟩
        · exfalso
          have he := (chk_ends tab hk).1
          simp only [ends0, Bool.and_eq_true, beq_iff_eq] at he
          have hl := he.2
          rw [List.getLast?_eq_getElem?] at hl
          have hl2 : (tab.drop k)[tab.length - 1 - k]? = some 0 := by rw [List.getElem?_drop, show k + (tab.length - 1 - k) = tab.length - 1 by omega]; exact hl
          exact i2 0 (List.mem_of_getElem? hl2) rfl
        · have HU := hid (upTo_take _ m i3 i4)
          have hm1 : k + m < tab.length := by simp at i2; omega
          have HZ : Hid (∀ j, k ≤ j → j < k + m → ∀ h : j < tab.length, tab[j] ≠ 0) := by
            intro j h3 h4 h
            refine i3 _ (List.mem_iff_getElem.2 ⟨j - k, by simp; omega, ?_⟩)
            simp [show k + (j - k) = j by omega]
          have HZ2 : Hid (tab[k + m] = 0) := by
            have := congrArg List.head? i4
            rw [List.head?_drop, List.getElem?_drop, List.getElem?_eq_getElem hm1] at this
            simpa [Hid] using this
          clear i1 i2 i3 i4
          go_enter Try.func17, Try.ntmps17
          go_wp2_with (go_at_call 21; refine HC.out.mono ?_; rintro e w2 ⟨rfl, hb2⟩)
          have hr2 := hrow.below hb2
          obtain ⟨b, o, rfl, hbw, hcell⟩ := hr2.at (by simp [u8s]; omega)
          have HCELL := hid hcell
          have hcv := conv_row (row_sub hr2 k m (by omega)) (c - k)
          rw [List.length_take_of_le (by simp; omega), ← HU.out] at hcv
          clear hcell
          go_loopw [7] (fun i wr => ∃ j : Nat, k ≤ j ∧ j ≤ k + m ∧ i = .int .i64 j ∧ wr = w2) (fun i _ => k + m - (intOf i).toNat)
          case atStart => exact ⟨k, Nat.le_refl _, by omega, rfl, rfl⟩
          case round =>
            obtain ⟨j, hj1, hj2, rfl, rfl⟩ := hrel
            have hjl : j < tab.length := by omega
            have hcj := HCELL.out j (by simpa [u8s] using hjl)
            simp only [u8s, List.getElem_map] at hcj
            have hjI : (j : Int) < tab.length := by omega
            by_cases hjm : j < k + m
            · have hx := HZ.out j hj1 hjm hjl
              generalize tab[j] = x at *
              have hxn := byte_ne hx
              clear hx
              go_wp2
              go_roundw
              case rel => exact ⟨j + 1, by omega, by omega, by go_num, trivial⟩
              case measure => simp [intOf]; omega
            · obtain rfl : j = k + m := by omega
              rw [HZ2.out] at hcj
              have hs : k + m - k = m := by omega
              go_wp2
              go_ret2
              rw [HR.out]
              exact ⟨rfl, hb2⟩
  · have HR : Hid (atC tab off = (ByteArray.empty, chkC tab)) := by show atC tab off = _; unfold atC; rw [if_pos hk]
    have hkn : (chkC tab != 0) = true := by rw [bne_iff_ne]; exact hk
    clear hk
    go_enter Try.func17, Try.ntmps17
    go_wp2_with (go_at_call 21; refine HC.out.mono ?_; rintro e w2 ⟨rfl, hb2⟩)
    go_ret2
    rw [HR.out]
    exact ⟨rfl, hb2⟩
end Go.Proofs.Ytaophcndkhnbeaa
