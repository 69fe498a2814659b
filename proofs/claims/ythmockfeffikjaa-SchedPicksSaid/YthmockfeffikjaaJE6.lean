/-
  The walk of the document's Check.
-/
import Derived.Test.YthmockfeffikjaaJE5
namespace Go.Proofs.Ythmockfeffikjaa
open Go.RowKit

set_option maxHeartbeats 2000000 in
theorem rcheck_1 (n owner need turns : Int) (came : List Int) (there : Bool) (p : Option Addr) (c : Nat) (w : World) (hsl : SlAt w p c came) (hm : came.length ≤ 17592186043904) :
    Calls Try.prog 58 #[(Ce.mk 1 n owner need came turns there).val p c] w fun e w' => e = .returned (i64 (ckP ⟨1, n, owner, need, came, turns, there⟩)) ∧ Below w.heap.size w w' := by
  unfold Ce.val
  dsimp only
  by_cases h_owner : owner = -1
  rotate_left
  · have HP : Hid (ckP ⟨1, n, owner, need, came, turns, there⟩ = 230) := by simp [Hid, ckP, okP, h_owner]
    have e_owner : (owner == -1) = false := by simpa using h_owner
    clear h_owner
    go_enter Try.func58, Try.ntmps58
    go_wp2_with fail
    go_ret
    exact ⟨ret_int (by rw [HP.out]), (Below.refl _ _).alloc (Nat.le_refl _) _⟩
  by_cases h_need : need = 0
  rotate_left
  · have HP : Hid (ckP ⟨1, n, owner, need, came, turns, there⟩ = 230) := by simp [Hid, ckP, okP, h_owner, h_need]
    have e_owner : (owner == -1) = true := by simpa using h_owner
    have e_need : (need == 0) = false := by simpa using h_need
    clear h_owner h_need
    go_enter Try.func58, Try.ntmps58
    go_wp2_with fail
    go_ret
    exact ⟨ret_int (by rw [HP.out]), (Below.refl _ _).alloc (Nat.le_refl _) _⟩
  by_cases hlen : came = []
  rotate_left
  · have HP : Hid (ckP ⟨1, n, owner, need, came, turns, there⟩ = 230) := by simp [Hid, ckP, okP, h_owner, h_need, hlen]
    have e_owner : (owner == -1) = true := by simpa using h_owner
    have e_need : (need == 0) = true := by simpa using h_need
    have hpos : 0 < came.length := List.length_pos_iff.2 hlen
    have elen : ((came.length : Int) == 0) = false := by rw [beq_eq_false_iff_ne]; omega
    clear h_owner h_need hlen
    go_enter Try.func58, Try.ntmps58
    go_wp2_with fail
    go_ret
    exact ⟨ret_int (by rw [HP.out]), (Below.refl _ _).alloc (Nat.le_refl _) _⟩
  subst hlen
  by_cases h_turns : turns = 0
  rotate_left
  · have HP : Hid (ckP ⟨1, n, owner, need, [], turns, there⟩ = 230) := by simp [Hid, ckP, okP, h_owner, h_need, h_turns]
    have e_owner : (owner == -1) = true := by simpa using h_owner
    have e_need : (need == 0) = true := by simpa using h_need
    have e_turns : (turns == 0) = false := by simpa using h_turns
    clear h_owner h_need h_turns
    go_enter Try.func58, Try.ntmps58
    go_wp2_with fail
    go_ret
    exact ⟨ret_int (by rw [HP.out]), (Below.refl _ _).alloc (Nat.le_refl _) _⟩
  cases there with
  | true =>
    have HP : Hid (ckP ⟨1, n, owner, need, [], turns, true⟩ = 230) := by simp [Hid, ckP, okP, h_owner, h_need, h_turns]
    have e_owner : (owner == -1) = true := by simpa using h_owner
    have e_need : (need == 0) = true := by simpa using h_need
    have e_turns : (turns == 0) = true := by simpa using h_turns
    clear h_owner h_need h_turns
    go_enter Try.func58, Try.ntmps58
    go_wp2_with fail
    go_ret
    exact ⟨ret_int (by rw [HP.out]), (Below.refl _ _).alloc (Nat.le_refl _) _⟩
  | false =>
    have HP : Hid (ckP ⟨1, n, owner, need, [], turns, false⟩ = 0) := by simp [Hid, ckP, okP, h_owner, h_need, h_turns]
    have e_owner : (owner == -1) = true := by simpa using h_owner
    have e_need : (need == 0) = true := by simpa using h_need
    have e_turns : (turns == 0) = true := by simpa using h_turns
    clear h_owner h_need h_turns
    go_enter Try.func58, Try.ntmps58
    go_wp2_with fail
    go_ret
    exact ⟨ret_int (by rw [HP.out]), (Below.refl _ _).alloc (Nat.le_refl _) _⟩

set_option maxHeartbeats 2000000 in
theorem rcheck_4 (n owner need turns : Int) (came : List Int) (there : Bool) (p : Option Addr) (c : Nat) (w : World) (hsl : SlAt w p c came) (hm : came.length ≤ 17592186043904) :
    Calls Try.prog 58 #[(Ce.mk 4 n owner need came turns there).val p c] w fun e w' => e = .returned (i64 (ckP ⟨4, n, owner, need, came, turns, there⟩)) ∧ Below w.heap.size w w' := by
  unfold Ce.val
  dsimp only
  by_cases h_owner : owner = -1
  rotate_left
  · have HP : Hid (ckP ⟨4, n, owner, need, came, turns, there⟩ = 230) := by simp [Hid, ckP, okP, h_owner]
    have e_owner : (owner == -1) = false := by simpa using h_owner
    clear h_owner
    go_enter Try.func58, Try.ntmps58
    go_wp2_with fail
    go_ret
    exact ⟨ret_int (by rw [HP.out]), (Below.refl _ _).alloc (Nat.le_refl _) _⟩
  by_cases h_need : need = 0
  rotate_left
  · have HP : Hid (ckP ⟨4, n, owner, need, came, turns, there⟩ = 230) := by simp [Hid, ckP, okP, h_owner, h_need]
    have e_owner : (owner == -1) = true := by simpa using h_owner
    have e_need : (need == 0) = false := by simpa using h_need
    clear h_owner h_need
    go_enter Try.func58, Try.ntmps58
    go_wp2_with fail
    go_ret
    exact ⟨ret_int (by rw [HP.out]), (Below.refl _ _).alloc (Nat.le_refl _) _⟩
  by_cases hlen : came = []
  rotate_left
  · have HP : Hid (ckP ⟨4, n, owner, need, came, turns, there⟩ = 230) := by simp [Hid, ckP, okP, h_owner, h_need, hlen]
    have e_owner : (owner == -1) = true := by simpa using h_owner
    have e_need : (need == 0) = true := by simpa using h_need
    have hpos : 0 < came.length := List.length_pos_iff.2 hlen
    have elen : ((came.length : Int) == 0) = false := by rw [beq_eq_false_iff_ne]; omega
    clear h_owner h_need hlen
    go_enter Try.func58, Try.ntmps58
    go_wp2_with fail
    go_ret
    exact ⟨ret_int (by rw [HP.out]), (Below.refl _ _).alloc (Nat.le_refl _) _⟩
  subst hlen
  by_cases h_turns : turns = 0
  rotate_left
  · have HP : Hid (ckP ⟨4, n, owner, need, [], turns, there⟩ = 230) := by simp [Hid, ckP, okP, h_owner, h_need, h_turns]
    have e_owner : (owner == -1) = true := by simpa using h_owner
    have e_need : (need == 0) = true := by simpa using h_need
    have e_turns : (turns == 0) = false := by simpa using h_turns
    clear h_owner h_need h_turns
    go_enter Try.func58, Try.ntmps58
    go_wp2_with fail
    go_ret
    exact ⟨ret_int (by rw [HP.out]), (Below.refl _ _).alloc (Nat.le_refl _) _⟩
  cases there with
  | true =>
    have HP : Hid (ckP ⟨4, n, owner, need, [], turns, true⟩ = 0) := by simp [Hid, ckP, okP, h_owner, h_need, h_turns]
    have e_owner : (owner == -1) = true := by simpa using h_owner
    have e_need : (need == 0) = true := by simpa using h_need
    have e_turns : (turns == 0) = true := by simpa using h_turns
    clear h_owner h_need h_turns
    go_enter Try.func58, Try.ntmps58
    go_wp2_with fail
    go_ret
    exact ⟨ret_int (by rw [HP.out]), (Below.refl _ _).alloc (Nat.le_refl _) _⟩
  | false =>
    by_cases h_n : n = 0
    rotate_left
    · have HP : Hid (ckP ⟨4, n, owner, need, [], turns, false⟩ = 230) := by simp [Hid, ckP, okP, h_owner, h_need, h_turns, h_n]
      have e_owner : (owner == -1) = true := by simpa using h_owner
      have e_need : (need == 0) = true := by simpa using h_need
      have e_turns : (turns == 0) = true := by simpa using h_turns
      have e_n : (n == 0) = false := by simpa using h_n
      clear h_owner h_need h_turns h_n
      go_enter Try.func58, Try.ntmps58
      go_wp2_with fail
      go_ret
      exact ⟨ret_int (by rw [HP.out]), (Below.refl _ _).alloc (Nat.le_refl _) _⟩
    have HP : Hid (ckP ⟨4, n, owner, need, [], turns, false⟩ = 0) := by simp [Hid, ckP, okP, h_owner, h_need, h_turns, h_n]
    have e_owner : (owner == -1) = true := by simpa using h_owner
    have e_need : (need == 0) = true := by simpa using h_need
    have e_turns : (turns == 0) = true := by simpa using h_turns
    have e_n : (n == 0) = true := by simpa using h_n
    clear h_owner h_need h_turns h_n
    go_enter Try.func58, Try.ntmps58
    go_wp2_with fail
    go_ret
    exact ⟨ret_int (by rw [HP.out]), (Below.refl _ _).alloc (Nat.le_refl _) _⟩

set_option maxHeartbeats 2000000 in
theorem rcheck_2 (n owner need turns : Int) (came : List Int) (there : Bool) (p : Option Addr) (c : Nat) (w : World) (hsl : SlAt w p c came) (hm : came.length ≤ 17592186043904) :
    Calls Try.prog 58 #[(Ce.mk 2 n owner need came turns there).val p c] w fun e w' => e = .returned (i64 (ckP ⟨2, n, owner, need, came, turns, there⟩)) ∧ Below w.heap.size w w' := by
  unfold Ce.val
  dsimp only
  have HIW := hid (risW_any owner)
  by_cases h_owner : owner = -1
  · have e_owner : (owner == -1) = true := by simpa using h_owner
    by_cases h_need : need = 0
    rotate_left
    · have HP : Hid (ckP ⟨2, n, owner, need, came, turns, there⟩ = 230) := by simp [Hid, ckP, okP, h_owner, h_need]
      have e_need : (need == 0) = false := by simpa using h_need
      clear h_owner h_need
      go_enter Try.func58, Try.ntmps58
      go_wp2_with fail
      go_ret
      exact ⟨ret_int (by rw [HP.out]), (Below.refl _ _).alloc (Nat.le_refl _) _⟩
    by_cases hlen : came = []
    rotate_left
    · have HP : Hid (ckP ⟨2, n, owner, need, came, turns, there⟩ = 230) := by simp [Hid, ckP, okP, h_owner, h_need, hlen]
      have e_need : (need == 0) = true := by simpa using h_need
      have hpos : 0 < came.length := List.length_pos_iff.2 hlen
      have elen : ((came.length : Int) == 0) = false := by rw [beq_eq_false_iff_ne]; omega
      clear h_owner h_need hlen
      go_enter Try.func58, Try.ntmps58
      go_wp2_with fail
      go_ret
      exact ⟨ret_int (by rw [HP.out]), (Below.refl _ _).alloc (Nat.le_refl _) _⟩
    subst hlen
    by_cases h_turns : turns = 0
    rotate_left
    · have HP : Hid (ckP ⟨2, n, owner, need, [], turns, there⟩ = 230) := by simp [Hid, ckP, okP, h_owner, h_need, h_turns]
      have e_need : (need == 0) = true := by simpa using h_need
      have e_turns : (turns == 0) = false := by simpa using h_turns
      clear h_owner h_need h_turns
      go_enter Try.func58, Try.ntmps58
      go_wp2_with fail
      go_ret
      exact ⟨ret_int (by rw [HP.out]), (Below.refl _ _).alloc (Nat.le_refl _) _⟩
    cases there with
    | true =>
      have HP : Hid (ckP ⟨2, n, owner, need, [], turns, true⟩ = 230) := by simp [Hid, ckP, okP, h_owner, h_need, h_turns]
      have e_need : (need == 0) = true := by simpa using h_need
      have e_turns : (turns == 0) = true := by simpa using h_turns
      clear h_owner h_need h_turns
      go_enter Try.func58, Try.ntmps58
      go_wp2_with fail
      go_ret
      exact ⟨ret_int (by rw [HP.out]), (Below.refl _ _).alloc (Nat.le_refl _) _⟩
    | false =>
      by_cases h_n : n = 0
      rotate_left
      · have HP : Hid (ckP ⟨2, n, owner, need, [], turns, false⟩ = 230) := by simp [Hid, ckP, okP, h_owner, h_need, h_turns, h_n]
        have e_need : (need == 0) = true := by simpa using h_need
        have e_turns : (turns == 0) = true := by simpa using h_turns
        have e_n : (n == 0) = false := by simpa using h_n
        clear h_owner h_need h_turns h_n
        go_enter Try.func58, Try.ntmps58
        go_wp2_with fail
        go_ret
        exact ⟨ret_int (by rw [HP.out]), (Below.refl _ _).alloc (Nat.le_refl _) _⟩
      have HP : Hid (ckP ⟨2, n, owner, need, [], turns, false⟩ = 0) := by simp [Hid, ckP, okP, h_owner, h_need, h_turns, h_n]
      have e_need : (need == 0) = true := by simpa using h_need
      have e_turns : (turns == 0) = true := by simpa using h_turns
      have e_n : (n == 0) = true := by simpa using h_n
      clear h_owner h_need h_turns h_n
      go_enter Try.func58, Try.ntmps58
      go_wp2_with fail
      go_ret
      exact ⟨ret_int (by rw [HP.out]), (Below.refl _ _).alloc (Nat.le_refl _) _⟩
  · have e_owner : (owner == -1) = false := by simpa using h_owner
    cases hw : isW owner with
    | true =>
      rw [hw] at HIW
      by_cases h_need : need = 0
      rotate_left
      · have HP : Hid (ckP ⟨2, n, owner, need, came, turns, there⟩ = 230) := by simp [Hid, ckP, okP, h_owner, hw, h_need]
        have e_need : (need == 0) = false := by simpa using h_need
        clear h_owner hw h_need
        go_enter Try.func58, Try.ntmps58
        go_wp2_with (go_at_call 60; refine (HIW.out _).mono ?_; rintro e w8 ⟨rfl, rfl⟩)
        go_ret
        exact ⟨ret_int (by rw [HP.out]), (Below.refl _ _).alloc (Nat.le_refl _) _⟩
      by_cases hlen : came = []
      rotate_left
      · have HP : Hid (ckP ⟨2, n, owner, need, came, turns, there⟩ = 230) := by simp [Hid, ckP, okP, h_owner, hw, h_need, hlen]
        have e_need : (need == 0) = true := by simpa using h_need
        have hpos : 0 < came.length := List.length_pos_iff.2 hlen
        have elen : ((came.length : Int) == 0) = false := by rw [beq_eq_false_iff_ne]; omega
        clear h_owner hw h_need hlen
        go_enter Try.func58, Try.ntmps58
        go_wp2_with (go_at_call 60; refine (HIW.out _).mono ?_; rintro e w8 ⟨rfl, rfl⟩)
        go_ret
        exact ⟨ret_int (by rw [HP.out]), (Below.refl _ _).alloc (Nat.le_refl _) _⟩
      subst hlen
      by_cases h_turns : turns = 0
      rotate_left
      · have HP : Hid (ckP ⟨2, n, owner, need, [], turns, there⟩ = 230) := by simp [Hid, ckP, okP, h_owner, hw, h_need, h_turns]
        have e_need : (need == 0) = true := by simpa using h_need
        have e_turns : (turns == 0) = false := by simpa using h_turns
        clear h_owner hw h_need h_turns
        go_enter Try.func58, Try.ntmps58
        go_wp2_with (go_at_call 60; refine (HIW.out _).mono ?_; rintro e w8 ⟨rfl, rfl⟩)
        go_ret
        exact ⟨ret_int (by rw [HP.out]), (Below.refl _ _).alloc (Nat.le_refl _) _⟩
      cases there with
      | true =>
        have HP : Hid (ckP ⟨2, n, owner, need, [], turns, true⟩ = 230) := by simp [Hid, ckP, okP, h_owner, hw, h_need, h_turns]
        have e_need : (need == 0) = true := by simpa using h_need
        have e_turns : (turns == 0) = true := by simpa using h_turns
        clear h_owner hw h_need h_turns
        go_enter Try.func58, Try.ntmps58
        go_wp2_with (go_at_call 60; refine (HIW.out _).mono ?_; rintro e w8 ⟨rfl, rfl⟩)
        go_ret
        exact ⟨ret_int (by rw [HP.out]), (Below.refl _ _).alloc (Nat.le_refl _) _⟩
      | false =>
        by_cases h_n : n = 0
        rotate_left
        · have HP : Hid (ckP ⟨2, n, owner, need, [], turns, false⟩ = 230) := by simp [Hid, ckP, okP, h_owner, hw, h_need, h_turns, h_n]
          have e_need : (need == 0) = true := by simpa using h_need
          have e_turns : (turns == 0) = true := by simpa using h_turns
          have e_n : (n == 0) = false := by simpa using h_n
          clear h_owner hw h_need h_turns h_n
          go_enter Try.func58, Try.ntmps58
          go_wp2_with (go_at_call 60; refine (HIW.out _).mono ?_; rintro e w8 ⟨rfl, rfl⟩)
          go_ret
          exact ⟨ret_int (by rw [HP.out]), (Below.refl _ _).alloc (Nat.le_refl _) _⟩
        have HP : Hid (ckP ⟨2, n, owner, need, [], turns, false⟩ = 0) := by simp [Hid, ckP, okP, h_owner, hw, h_need, h_turns, h_n]
        have e_need : (need == 0) = true := by simpa using h_need
        have e_turns : (turns == 0) = true := by simpa using h_turns
        have e_n : (n == 0) = true := by simpa using h_n
        clear h_owner hw h_need h_turns h_n
        go_enter Try.func58, Try.ntmps58
        go_wp2_with (go_at_call 60; refine (HIW.out _).mono ?_; rintro e w8 ⟨rfl, rfl⟩)
        go_ret
        exact ⟨ret_int (by rw [HP.out]), (Below.refl _ _).alloc (Nat.le_refl _) _⟩
    | false =>
      rw [hw] at HIW
      have HP : Hid (ckP ⟨2, n, owner, need, came, turns, there⟩ = 230) := by simp [Hid, ckP, okP, h_owner, hw]
      clear h_owner hw
      go_enter Try.func58, Try.ntmps58
      go_wp2_with (go_at_call 60; refine (HIW.out _).mono ?_; rintro e w8 ⟨rfl, rfl⟩)
      go_ret
      exact ⟨ret_int (by rw [HP.out]), (Below.refl _ _).alloc (Nat.le_refl _) _⟩

set_option maxHeartbeats 2000000 in
theorem rcheck_3 (n owner need turns : Int) (came : List Int) (there : Bool) (p : Option Addr) (c : Nat) (w : World) (hsl : SlAt w p c came) (hm : came.length ≤ 17592186043904) :
    Calls Try.prog 58 #[(Ce.mk 3 n owner need came turns there).val p c] w fun e w' => e = .returned (i64 (ckP ⟨3, n, owner, need, came, turns, there⟩)) ∧ Below w.heap.size w w' := by
  unfold Ce.val
  dsimp only
  have HG := hid (fun w1 (h : SlAt w1 p c came) => rgate_any ⟨3, n, owner, need, came, turns, there⟩ p c w1 h hm)
  unfold Ce.val at HG
  dsimp only at HG
  by_cases h_owner : owner = -1
  rotate_left
  · have e_owner : (owner == -1) = false := by simpa using h_owner
    have HP : Hid (ckP ⟨3, n, owner, need, came, turns, there⟩ = 230) := by simp [Hid, ckP, okP, h_owner]
    clear h_owner
    go_enter Try.func58, Try.ntmps58
    go_wp2_with fail
    go_ret
    exact ⟨ret_int (by rw [HP.out]), (Below.refl _ _).alloc (Nat.le_refl _) _⟩
  have e_owner : (owner == -1) = true := by simpa using h_owner
  cases hg : gateP ⟨3, n, owner, need, came, turns, there⟩ with
  | false =>
    rw [hg] at HG
    have HP : Hid (ckP ⟨3, n, owner, need, came, turns, there⟩ = 230) := by simp [Hid, ckP, okP, hg]
    clear hg h_owner
    by_cases h_need : need = 0
    rotate_left
    · have e_need : (need == 0) = false := by simpa using h_need
      clear h_need
      go_enter Try.func58, Try.ntmps58
      go_wp2_with (go_at_call 68; first | (refine (HG.out _ hs7).mono ?_; rintro e w6 ⟨rfl, hb6⟩) | (refine (HG.out _ (hsl.alloc _)).mono ?_; rintro e w7 ⟨rfl, hb7⟩; obtain ⟨hc7, hf7⟩ := bcell hb7; have hs7 := SlAt.below (hsl.alloc _) hb7))
      go_ret
      exact ⟨ret_int (by rw [HP.out]), ((Below.refl _ _).alloc (Nat.le_refl _) _).trans (hb7.mono (by simp))⟩
    subst h_need
    by_cases hlen : came = []
    rotate_left
    · have hpos : 0 < came.length := List.length_pos_iff.2 hlen
      have elen : ((came.length : Int) == 0) = false := by rw [beq_eq_false_iff_ne]; omega
      clear hlen
      go_enter Try.func58, Try.ntmps58
      go_wp2_with (go_at_call 68; first | (refine (HG.out _ hs7).mono ?_; rintro e w6 ⟨rfl, hb6⟩) | (refine (HG.out _ (hsl.alloc _)).mono ?_; rintro e w7 ⟨rfl, hb7⟩; obtain ⟨hc7, hf7⟩ := bcell hb7; have hs7 := SlAt.below (hsl.alloc _) hb7))
      go_ret
      exact ⟨ret_int (by rw [HP.out]), ((Below.refl _ _).alloc (Nat.le_refl _) _).trans (hb7.mono (by simp))⟩
    subst hlen
    by_cases h_turns : turns = 0
    rotate_left
    · have e_turns : (turns == 0) = false := by simpa using h_turns
      clear h_turns
      go_enter Try.func58, Try.ntmps58
      go_wp2_with (go_at_call 68; first | (refine (HG.out _ hs7).mono ?_; rintro e w6 ⟨rfl, hb6⟩) | (refine (HG.out _ (hsl.alloc _)).mono ?_; rintro e w7 ⟨rfl, hb7⟩; obtain ⟨hc7, hf7⟩ := bcell hb7; have hs7 := SlAt.below (hsl.alloc _) hb7))
      go_ret
      exact ⟨ret_int (by rw [HP.out]), ((Below.refl _ _).alloc (Nat.le_refl _) _).trans (hb7.mono (by simp))⟩
    subst h_turns
    cases there with
    | true =>
      go_enter Try.func58, Try.ntmps58
      go_wp2_with fail
      go_ret
      exact ⟨ret_int (by rw [HP.out]), ((Below.refl _ _).alloc (Nat.le_refl _) _)⟩
    | false =>
      by_cases h_n : n = 0
      · subst h_n
        go_enter Try.func58, Try.ntmps58
        go_wp2_with (go_at_call 68; first | (refine (HG.out _ hs7).mono ?_; rintro e w6 ⟨rfl, hb6⟩) | (refine (HG.out _ (hsl.alloc _)).mono ?_; rintro e w7 ⟨rfl, hb7⟩; obtain ⟨hc7, hf7⟩ := bcell hb7; have hs7 := SlAt.below (hsl.alloc _) hb7))
        go_ret
        exact ⟨ret_int (by rw [HP.out]), ((Below.refl _ _).alloc (Nat.le_refl _) _).trans (hb7.mono (by simp))⟩
      · have e_n : (n == 0) = false := by simpa using h_n
        clear h_n
        go_enter Try.func58, Try.ntmps58
        go_wp2_with fail
        go_ret
        exact ⟨ret_int (by rw [HP.out]), ((Below.refl _ _).alloc (Nat.le_refl _) _)⟩
  | true =>
    rw [hg] at HG
    have hn1 : 1 ≤ need := by
      simp only [gateP, gateHead, Bool.and_eq_true, decide_eq_true_eq] at hg
      exact hg.1.1.1.1.1
    have e_need : (need == 0) = false := by rw [beq_eq_false_iff_ne]; omega
    clear hn1
    cases there with
    | true =>
      have HP : Hid (ckP ⟨3, n, owner, need, came, turns, true⟩ = 230) := by simp [Hid, ckP, okP, hg, h_owner]
      clear hg h_owner
      go_enter Try.func58, Try.ntmps58
      go_wp2_with (go_at_call 68; first | (refine (HG.out _ hs7).mono ?_; rintro e w6 ⟨rfl, hb6⟩) | (refine (HG.out _ (hsl.alloc _)).mono ?_; rintro e w7 ⟨rfl, hb7⟩; obtain ⟨hc7, hf7⟩ := bcell hb7; have hs7 := SlAt.below (hsl.alloc _) hb7))
      go_ret
      exact ⟨ret_int (by rw [HP.out]), ((Below.refl _ _).alloc (Nat.le_refl _) _).trans (hb7.mono (by simp))⟩
    | false =>
      by_cases h_n : n = 0
      rotate_left
      · have HP : Hid (ckP ⟨3, n, owner, need, came, turns, false⟩ = 230) := by simp [Hid, ckP, okP, hg, h_owner, h_n]
        have e_n : (n == 0) = false := by simpa using h_n
        clear hg h_owner h_n
        go_enter Try.func58, Try.ntmps58
        go_wp2_with (go_at_call 68; first | (refine (HG.out _ hs7).mono ?_; rintro e w6 ⟨rfl, hb6⟩) | (refine (HG.out _ (hsl.alloc _)).mono ?_; rintro e w7 ⟨rfl, hb7⟩; obtain ⟨hc7, hf7⟩ := bcell hb7; have hs7 := SlAt.below (hsl.alloc _) hb7))
        go_ret
        exact ⟨ret_int (by rw [HP.out]), ((Below.refl _ _).alloc (Nat.le_refl _) _).trans (hb7.mono (by simp))⟩
      have HP : Hid (ckP ⟨3, n, owner, need, came, turns, false⟩ = 0) := by simp only [h_n, h_owner] at hg; simp [Hid, ckP, okP, hg, h_n, h_owner]
      have e_n : (n == 0) = true := by simpa using h_n
      clear hg h_owner h_n
      go_enter Try.func58, Try.ntmps58
      go_wp2_with (go_at_call 68; first | (refine (HG.out _ hs7).mono ?_; rintro e w6 ⟨rfl, hb6⟩) | (refine (HG.out _ (hsl.alloc _)).mono ?_; rintro e w7 ⟨rfl, hb7⟩; obtain ⟨hc7, hf7⟩ := bcell hb7; have hs7 := SlAt.below (hsl.alloc _) hb7))
      go_ret
      exact ⟨ret_int (by rw [HP.out]), (((Below.refl _ _).alloc (Nat.le_refl _) _).trans (hb7.mono (by simp))).trans (hb6.mono (by have := hb7.size; simp at this; omega))⟩

set_option maxHeartbeats 2000000 in
theorem rcheck_x (kind n owner need turns : Int) (came : List Int) (there : Bool) (hk : kind ≠ 1 ∧ kind ≠ 2 ∧ kind ≠ 3 ∧ kind ≠ 4) (p : Option Addr) (c : Nat) (w : World) (hsl : SlAt w p c came) (hm : came.length ≤ 17592186043904) :
    Calls Try.prog 58 #[(Ce.mk kind n owner need came turns there).val p c] w fun e w' => e = .returned (i64 (ckP ⟨kind, n, owner, need, came, turns, there⟩)) ∧ Below w.heap.size w w' := by
  unfold Ce.val
  dsimp only
  obtain ⟨k1, k2, k3, k4⟩ := hk
  have e1 : (kind == 1) = false := by simpa using k1
  have e2 : (kind == 2) = false := by simpa using k2
  have e3 : (kind == 3) = false := by simpa using k3
  have e4 : (kind == 4) = false := by simpa using k4
  have HP : Hid (ckP ⟨kind, n, owner, need, came, turns, there⟩ = 230) := by simp [Hid, ckP, okP, k1, k2, k3, k4]
  clear k1 k2 k3 k4 hsl
  go_enter Try.func58, Try.ntmps58
  go_wp2
  all_goals
    go_ret
    exact ⟨ret_int (by rw [HP.out]), (Below.refl _ _).alloc (Nat.le_refl _) _⟩

theorem rcheck_any (x : Ce) (p : Option Addr) (c : Nat) (w : World) (hsl : SlAt w p c x.came) (hm : x.came.length ≤ 17592186043904) :
    Calls Try.prog 58 #[x.val p c] w fun e w' => e = .returned (i64 (ckP x)) ∧ Below w.heap.size w w' := by
  obtain ⟨kind, n, owner, need, came, turns, there⟩ := x
  dsimp only at hsl hm
  by_cases k1 : kind = 1
  · subst k1; exact rcheck_1 n owner need turns came there p c w hsl hm
  · by_cases k2 : kind = 2
    · subst k2; exact rcheck_2 n owner need turns came there p c w hsl hm
    · by_cases k3 : kind = 3
      · subst k3; exact rcheck_3 n owner need turns came there p c w hsl hm
      · by_cases k4 : kind = 4
        · subst k4; exact rcheck_4 n owner need turns came there p c w hsl hm
        · exact rcheck_x kind n owner need turns came there ⟨k1, k2, k3, k4⟩ p c w hsl hm
end Go.Proofs.Ythmockfeffikjaa
