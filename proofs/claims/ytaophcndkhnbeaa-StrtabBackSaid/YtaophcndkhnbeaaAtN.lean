/-
  strtab.At: it reckons 'atC'.
-/
import Derived.Test.YtaophcndkhnbeaaChkI
namespace Go.Proofs.Ytaophcndkhnbeaa
open Go.RowKit

def atC (tab : List UInt8) (off : Int) : ByteArray × Int :=
  if chkC tab ≠ 0 then (ByteArray.empty, chkC tab) else if off < 0 ∨ tab.length ≤ off then (ByteArray.empty, 7) else (⟨(upTo (tab.drop off.toNat)).toArray⟩, 0)

theorem upTo_all (l : List UInt8) (h1 : ∀ b ∈ l, b ≠ 0) : upTo l = l := by
  induction l with
  | nil => rfl
  | cons b r ih =>
    unfold upTo at ih ⊢
    rw [List.takeWhile_cons_of_pos (by simpa using h1 b (by simp)), ih (fun x hx => h1 x (by simp [hx]))]
theorem upTo_app (l r : List UInt8) (h1 : ∀ b ∈ l, b ≠ 0) : upTo (l ++ 0 :: r) = l := by
  unfold upTo
  rw [List.takeWhile_append_of_pos (by intro b hb; simpa using h1 b hb)]
  simp
theorem upTo_take (l : List UInt8) (n : Nat) (h1 : ∀ b ∈ l.take n, b ≠ 0) (h2 : l.drop n = 0 :: l.drop (n + 1)) : upTo l = l.take n := by
  have := upTo_app (l.take n) (l.drop (n + 1)) h1
  rwa [← h2, List.take_append_drop] at this

theorem cut_any (b o c n0 d : Nat) (l : List UInt8) (w : World) (hc : l.length ≤ c) (hm : l.length ≤ 1048576) (h : Row w (some ⟨b, o, none⟩) (u8s l)) (hz : w.cell? ⟨n0, 0, none⟩ = some (.int .u8 0)) :
    Calls Try.prog 29 #[.slice (some ⟨b, o, none⟩) l.length c, .slice (some ⟨n0, 0, none⟩) 1 d] w fun e w' => e = .returned (Lib.cutV (some ⟨b, o, none⟩) l.length c 1 (Lib.indexByte l 0)) ∧ ∃ q, w' = w.drewN q := by
  refine Try.bytes_Cut_of (some ⟨b, o, none⟩) (some ⟨n0, 0, none⟩) l.length c 1 d _ w hc (Lib.indexByte_ge _ _) (fun h0 => ?_) (by omega) ?_
  · rcases idx_split l with ⟨h1, _⟩ | ⟨n, h1, h2, _⟩ <;> omega
  · have := Try.bytes_Index_one b o l.length c n0 0 d (l.map fun b => (b.toNat : Int)) 0 w (by simp) (fun i hi => by
      have := h.cell i (by simpa [u8s] using hi)
      rw [this]
      simp [u8s, List.getD, hi]) hz
    rw [bytesOf_nums] at this
    refine this.mono fun e w' ⟨he, hw⟩ => ⟨he, 0, hw⟩

set_option maxHeartbeats 1000000 in
theorem at_any (p : Option Addr) (c : Nat) (tab : List UInt8) (off : Int) (w : World) (hc : tab.length ≤ c) (hm : tab.length ≤ 1048576) (hrow : Row w p (u8s tab)) :
    Calls Try.prog 16 #[.slice p tab.length c, .int .i64 off] w fun e w' => e = .returned (.tuple #[.string (atC tab off).1, .int .i64 (atC tab off).2]) ∧ Below w.heap.size w w' := by
  have HC := hid (chk_any p c tab w hc hm hrow)
  by_cases hk : chkC tab = 0
  · have hkn : (chkC tab != 0) = false := by rw [hk]; rfl
    by_cases h1 : off < 0
    · have HR : Hid (atC tab off = (ByteArray.empty, 7)) := by show atC tab off = _; unfold atC; rw [if_neg (by simp [hk]), if_pos (.inl h1)]
      go_enter Try.func16, Try.ntmps16
      go_wp2_with (go_at_call 20; refine HC.out.mono ?_; rintro e w2 ⟨rfl, hb2⟩)
      go_ret2
      rw [HR.out]
      exact ⟨rfl, hb2⟩
    · by_cases h2 : (tab.length : Int) ≤ off
      · have HR : Hid (atC tab off = (ByteArray.empty, 7)) := by show atC tab off = _; unfold atC; rw [if_neg (by simp [hk]), if_pos (.inr h2)]
        go_enter Try.func16, Try.ntmps16
        go_wp2_with (go_at_call 20; refine HC.out.mono ?_; rintro e w2 ⟨rfl, hb2⟩)
        go_ret2
        rw [HR.out]
        exact ⟨rfl, hb2⟩
      · have HR : Hid (atC tab off = (⟨(upTo (tab.drop off.toNat)).toArray⟩, 0)) := by
          show atC tab off = _; unfold atC; rw [if_neg (by simp [hk]), if_neg (by omega)]
        obtain ⟨k, rfl⟩ : ∃ k : Nat, off = k := ⟨off.toNat, by omega⟩
        rw [Int.toNat_natCast] at HR
        have hkl : k < tab.length := by omega
        obtain ⟨b, o, rfl, hbw, _⟩ := hrow.at (by simp [u8s]; omega)
        have HD := hid (fun (w' : World) (hb : Below w.heap.size w w') (n0 d : Nat) (hz : w'.cell? ⟨n0, 0, none⟩ = some (.int .u8 0)) => by
          have h := row_sub (hrow.below hb) k (tab.length - k) (by omega)
          rw [List.take_of_length_le (by simp)] at h
          have := cut_any b (o + k) (c - k) n0 d (tab.drop k) w' (by simp; omega) (by simp; omega) h hz
          rw [List.length_drop] at this
          exact this)
        rcases idx_split (tab.drop k) with ⟨i1, i2⟩ | ⟨m, i1, i2, i3, i4⟩
        · exfalso
          have he := (chk_ends tab hk).1
          simp only [ends0, Bool.and_eq_true, beq_iff_eq] at he
          have hl := he.2
          rw [List.getLast?_eq_getElem?] at hl
          have hl2 : (tab.drop k)[tab.length - 1 - k]? = some 0 := by rw [List.getElem?_drop, show k + (tab.length - 1 - k) = tab.length - 1 by omega]; exact hl
          exact i2 0 (List.mem_of_getElem? hl2) rfl
        · have HU := hid (upTo_take _ m i3 i4)
          have HV := hid (fun (w' : World) (hb : Below w.heap.size w w') => by
            have := conv_row (row_sub (hrow.below hb) k m (by omega)) (c - k)
            rw [List.length_take_of_le (by omega)] at this
            exact this)
          obtain ⟨V, hV⟩ : ∃ V, Lib.cutV (some ⟨b, o + k, none⟩) (tab.length - k) (c - k) 1 (m : Int) = .tuple #[.slice (some ⟨b, o + k, none⟩) m (c - k), V, .bool true] := ⟨_, by simp [Lib.cutV]; rfl⟩
          rw [i1, hV] at HD
          have hm1 : m < (tab.drop k).length := i2
          clear i1 i2 i3 i4 hV
          go_enter Try.func16, Try.ntmps16
          go_wp2_with (first
            | (go_at_call 20; refine HC.out.mono ?_; rintro e w2 ⟨rfl, hb2⟩; have hb3 := hb2.alloc hb2.size (.cells #[.int .u8 0] 5); have hz := cell_of_row _ _ 0 _ _ _ (heap_alloc_new w2 (.cells #[.int .u8 0] 5)))
            | (go_at_call 29; go_loud (refine (HD.out _ hb3 w2.heap.size 1 hz).mono ?_); rintro e w3 ⟨rfl, q, rfl⟩; have hcv := HV.out _ (below_drewN hb3 q)))
          go_ret2
          rw [HR.out, HU.out]
          exact ⟨rfl, below_drewN hb3 _⟩
  · have HR : Hid (atC tab off = (ByteArray.empty, chkC tab)) := by show atC tab off = _; unfold atC; rw [if_pos hk]
    have hkn : (chkC tab != 0) = true := by rw [bne_iff_ne]; exact hk
    clear hk
    go_enter Try.func16, Try.ntmps16
    go_wp2_with (go_at_call 20; refine HC.out.mono ?_; rintro e w2 ⟨rfl, hb2⟩)
    go_ret2
    rw [HR.out]
    exact ⟨rfl, hb2⟩
end Go.Proofs.Ytaophcndkhnbeaa
