/-
  Names of sections: which may be: both walks.
-/
import Derived.Test.YteccpmmedpkddaaKind
namespace Go.Proofs.Yteccpmmedpkddaa
open Go.RowKit

theorem rwidth_any (k : Int) (w : World) : Calls Try.prog 12 #[.int .i64 k] w fun e w' => e = .returned (.int .i64 (widthP k)) ∧ w = w' := by
  unfold widthP
  go_enter Try.func12, Try.ntmps12
  go_wp2
  all_goals (go_ret; refine ⟨ret_int ?_, rfl⟩)
  all_goals simp only [beq_iff_eq, beq_eq_false_iff_ne, ne_eq, Bool.or_eq_true, Bool.and_eq_true, decide_eq_true_eq, Bool.or_eq_false_iff, Bool.and_eq_false_iff, decide_eq_false_iff_not] at *
  all_goals (repeat' split) <;> omega

def okc (c : UInt8) : Bool := decide (33 ≤ (c.toNat : Int)) && decide ((c.toNat : Int) ≤ 126)
def okN (s : ByteArray) (k : Nat) : Bool := (s.data.toList.take k).all okc
theorem okN_succ (s : ByteArray) (k : Nat) (h : k < s.size) : okN s (k + 1) = (okN s k && okc s[k]) := by
  unfold okN
  rw [List.take_succ_eq_append_getElem (by simpa using h)]
  simp
  rfl
theorem okN_false (s : ByteArray) (k : Nat) (h : k < s.size) (hc : okc s[k] = false) : okN s s.size = false := by
  have h1 : okN s (k + 1) = false := by rw [okN_succ s k h, hc, Bool.and_false]
  unfold okN at h1 ⊢
  rw [List.all_eq_false] at h1 ⊢
  obtain ⟨x, hx, hn⟩ := h1
  refine ⟨x, ?_, hn⟩
  rw [List.take_of_length_le (show s.data.toList.length ≤ s.size from Nat.le_refl _)]
  exact List.mem_of_mem_take hx
theorem okc_no (c : UInt8) (h : (c.toNat : Int) < 33 ∨ 126 < (c.toNat : Int)) : okc c = false := by
  simp only [okc, Bool.and_eq_false_iff, decide_eq_false_iff_not]; omega
theorem okc_yes (c : UInt8) (h1 : 33 ≤ (c.toNat : Int)) (h2 : (c.toNat : Int) ≤ 126) : okc c = true := by
  simp only [okc, Bool.and_eq_true, decide_eq_true_eq]; omega
def nameP (s : ByteArray) : Bool := decide (1 ≤ s.size) && decide (s.size ≤ 32) && okN s s.size
theorem okN_zero (s : ByteArray) : okN s 0 = true := by simp [okN]

set_option maxHeartbeats 400000 in
theorem name_any (s : ByteArray) (w : World) (hs : s.size ≤ 140737488351232) : Calls Try.prog 61 #[.string s] w fun e w' => e = .returned (.bool (nameP s)) ∧ w = w' := by
  rcases Classical.em (s.size < 1) with h1 | h1
  · go_enter Try.func61, Try.ntmps61
    go_wp2
    all_goals (go_ret; exact ⟨ret_bool (by simp [nameP]; omega), rfl⟩)
  · rcases Classical.em (32 < s.size) with h2 | h2
    · have h1' : 1 ≤ s.size := by omega
      go_enter Try.func61, Try.ntmps61
      go_wp2
      all_goals (go_ret; exact ⟨ret_bool (by simp [nameP]; omega), rfl⟩)
    · have h1' : 1 ≤ s.size := by omega
      have h2' : s.size ≤ 32 := by omega
      have HN : Hid (nameP s = okN s s.size) := by simp [Hid, nameP, h1', h2']
      clear h1 h2
      go_enter Try.func61, Try.ntmps61
      go_wp2
      go_loop [14] (fun i => ∃ k : Nat, k ≤ s.size ∧ i = .int .i64 k ∧ okN s k = true) (fun i => s.size - (intOf i).toNat)
      case atStart => exact ⟨0, Nat.zero_le _, rfl, okN_zero s⟩
      case round =>
        obtain ⟨k, hk, rfl, hok⟩ := hrel
        have HOK := hid hok
        clear hok
        by_cases hlt : k < s.size
        · have HS := hid (okN_succ s k hlt)
          have HF := hid (okN_false s k hlt)
          go_wp2
          all_goals first
            | (go_ret; exact ⟨ret_bool (by rw [HN.out]; exact (HF.out (okc_no _ (by omega))).symm), rfl⟩)
            | (go_round
               case rel => exact ⟨k + 1, by omega, by go_num, by rw [HS.out, HOK.out, okc_yes _ (by omega) (by omega)]; rfl⟩
               case measure => simp [intOf]; omega)
        · go_wp2
          go_ret
          obtain rfl : k = s.size := by omega
          exact ⟨ret_bool (by rw [HN.out]; exact HOK.out.symm), rfl⟩

set_option maxHeartbeats 400000 in
theorem rname_any (s : ByteArray) (w : World) (hs : s.size ≤ 140737488351232) : Calls Try.prog 66 #[.string s] w fun e w' => e = .returned (.bool (nameP s)) ∧ w = w' := by
  have HB : Hid (okN s s.size = false → nameP s = false) := fun h => by simp [nameP, h]
  have HG : Hid (okN s s.size = true → nameP s = (decide (1 ≤ s.size) && decide (s.size ≤ 32))) := fun h => by simp [nameP, h]
  go_enter Try.func66, Try.ntmps66
  go_wp2
  go_loop [3] (fun i => ∃ k : Nat, k ≤ s.size ∧ i = .int .i64 k ∧ okN s k = true) (fun i => s.size - (intOf i).toNat)
  case atStart => exact ⟨0, Nat.zero_le _, rfl, okN_zero s⟩
  case round =>
    obtain ⟨k, hk, rfl, hok⟩ := hrel
    have HOK := hid hok
    clear hok
    by_cases hlt : k < s.size
    · have HS := hid (okN_succ s k hlt)
      have HF := hid (okN_false s k hlt)
      go_wp2
      all_goals first
        | (go_ret; exact ⟨ret_bool (HB.out (HF.out (okc_no _ (by omega)))).symm, rfl⟩)
        | (go_round
           case rel => exact ⟨k + 1, by omega, by go_num, by rw [HS.out, HOK.out, okc_yes _ (by omega) (by omega)]; rfl⟩
           case measure => simp [intOf]; omega)
    · obtain rfl : k = s.size := by omega
      have HN := hid (HG.out HOK.out)
      go_wp2
      all_goals (go_ret; refine ⟨ret_bool ?_, rfl⟩; rw [HN.out])
      all_goals first | (have h : 1 ≤ s.size := by omega
                         simp [h]; omega) | (have h : ¬ 1 ≤ s.size := by omega
                                             simp [h])
end Go.Proofs.Yteccpmmedpkddaa
