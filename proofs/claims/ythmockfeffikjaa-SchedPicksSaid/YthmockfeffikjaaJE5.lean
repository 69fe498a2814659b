/-
  The walks of Check, the program's and the document's.
-/
import Derived.Test.YthmockfeffikjaaJE4
namespace Go.Proofs.Ythmockfeffikjaa
open Go.RowKit

theorem same_eq (x y : Ce) (h : decide (x = y) = true) : x = y := of_decide_eq_true h

set_option maxHeartbeats 2000000 in
theorem check_1 (n owner need turns : Int) (came : List Int) (there : Bool) (p : Option Addr) (c : Nat) (w : World) (hsl : SlAt w p c came) (hm : came.length ≤ 17592186043904) :
    Calls Try.prog 46 #[(Ce.mk 1 n owner need came turns there).val p c] w fun e w' => e = .returned (i64 (ckP ⟨1, n, owner, need, came, turns, there⟩)) ∧ Below w.heap.size w w' := by
  unfold Ce.val
  dsimp only
  have HSM := hid (fun w1 (h : SlAt w1 p c came) => same_any ⟨1, n, owner, need, came, turns, there⟩ ⟨1, n, -1, 0, [], 0, false⟩ p none c 0 w1 h (slat_nil w1))
  unfold Ce.val at HSM
  dsimp only [List.length_nil] at HSM
  have HP : Hid (ckP ⟨1, n, owner, need, came, turns, there⟩ = if decide ((⟨1, n, owner, need, came, turns, there⟩ : Ce) = ⟨1, n, -1, 0, [], 0, false⟩) = true then 0 else 230) := by
    simp [Hid, ckP, okP, and_assoc]
  cases hd : decide ((⟨1, n, owner, need, came, turns, there⟩ : Ce) = ⟨1, n, -1, 0, [], 0, false⟩) with
  | true =>
    rw [hd] at HSM HP
    clear hd
    go_enter Try.func46, Try.ntmps46
    go_wp2_with (go_at_call 56; refine (HSM.out _ ((hsl.alloc _).alloc _)).mono ?_; rintro e w9 ⟨rfl, hb9⟩)
    go_ret
    exact ⟨ret_int (by rw [HP.out]; rfl), (((Below.refl _ _).alloc (Nat.le_refl _) _).alloc (by simp) _).trans (hb9.mono (by simp; omega))⟩
  | false =>
    rw [hd] at HSM HP
    clear hd
    go_enter Try.func46, Try.ntmps46
    go_wp2_with (go_at_call 56; refine (HSM.out _ ((hsl.alloc _).alloc _)).mono ?_; rintro e w9 ⟨rfl, hb9⟩)
    go_ret
    exact ⟨ret_int (by rw [HP.out]; rfl), (((Below.refl _ _).alloc (Nat.le_refl _) _).alloc (by simp) _).trans (hb9.mono (by simp; omega))⟩

set_option maxHeartbeats 2000000 in
theorem check_2 (n owner need turns : Int) (came : List Int) (there : Bool) (p : Option Addr) (c : Nat) (w : World) (hsl : SlAt w p c came) (hm : came.length ≤ 17592186043904) :
    Calls Try.prog 46 #[(Ce.mk 2 n owner need came turns there).val p c] w fun e w' => e = .returned (i64 (ckP ⟨2, n, owner, need, came, turns, there⟩)) ∧ Below w.heap.size w w' := by
  unfold Ce.val
  dsimp only
  have HSM := hid (fun w1 (h : SlAt w1 p c came) => same_any ⟨2, n, owner, need, came, turns, there⟩ ⟨2, 0, owner, 0, [], 0, false⟩ p none c 0 w1 h (slat_nil w1))
  unfold Ce.val at HSM
  dsimp only [List.length_nil] at HSM
  have HIW := hid (isW_any owner)
  have HP : Hid (ckP ⟨2, n, owner, need, came, turns, there⟩ = if (decide (owner = -1) || isW owner) && decide ((⟨2, n, owner, need, came, turns, there⟩ : Ce) = ⟨2, 0, owner, 0, [], 0, false⟩) = true then 0 else 230) := by
    simp [Hid, ckP, okP, and_assoc]
  by_cases ho : owner = -1 ∨ isW owner = true
  · have HO : Hid ((decide (owner = -1) || isW owner) = true) := by simpa [Hid] using ho
    rw [HO.out, Bool.true_and] at HP
    cases hd : decide ((⟨2, n, owner, need, came, turns, there⟩ : Ce) = ⟨2, 0, owner, 0, [], 0, false⟩) <;>
    · rw [hd] at HSM HP
      clear hd
      by_cases h1 : owner = -1
      · have e1 : (owner == -1) = true := by simpa using h1
        clear h1 ho
        go_enter Try.func46, Try.ntmps46
        go_wp2_with (go_at_call 56; refine (HSM.out _ ((hsl.alloc _).alloc _)).mono ?_; rintro e w9 ⟨rfl, hb9⟩)
        go_ret
        exact ⟨ret_int (by rw [HP.out]; rfl), (((Below.refl _ _).alloc (Nat.le_refl _) _).alloc (by simp) _).trans (hb9.mono (by simp; omega))⟩
      · have e1 : (owner == -1) = false := by simpa using h1
        rw [show isW owner = true from ho.resolve_left h1] at HIW
        clear h1 ho
        go_enter Try.func46, Try.ntmps46
        go_wp2_with (first
          | (go_at_call 54; refine (HIW.out _).mono ?_; rintro e w8 ⟨rfl, rfl⟩)
          | (go_at_call 56; refine (HSM.out _ ((hsl.alloc _).alloc _)).mono ?_; rintro e w9 ⟨rfl, hb9⟩))
        go_ret
        exact ⟨ret_int (by rw [HP.out]; rfl), (((Below.refl _ _).alloc (Nat.le_refl _) _).alloc (by simp) _).trans (hb9.mono (by simp; omega))⟩
  · have h1 : owner ≠ -1 := fun h => ho (.inl h)
    have h2 : isW owner = false := by simpa using fun h => ho (.inr h)
    have e1 : (owner == -1) = false := by simpa using h1
    rw [h2] at HIW HP
    rw [decide_eq_false h1, Bool.false_or, Bool.false_and] at HP
    clear ho h1 h2
    go_enter Try.func46, Try.ntmps46
    go_wp2_with (go_at_call 54; refine (HIW.out _).mono ?_; rintro e w8 ⟨rfl, rfl⟩)
    go_ret
    exact ⟨ret_int (by rw [HP.out]; rfl), ((Below.refl _ _).alloc (Nat.le_refl _) _).alloc (by simp) _⟩

set_option maxHeartbeats 2000000 in
theorem check_4 (n owner need turns : Int) (came : List Int) (there : Bool) (p : Option Addr) (c : Nat) (w : World) (hsl : SlAt w p c came) (hm : came.length ≤ 17592186043904) :
    Calls Try.prog 46 #[(Ce.mk 4 n owner need came turns there).val p c] w fun e w' => e = .returned (i64 (ckP ⟨4, n, owner, need, came, turns, there⟩)) ∧ Below w.heap.size w w' := by
  unfold Ce.val
  dsimp only
  have HSM := hid (fun w1 (h : SlAt w1 p c came) => same_any ⟨4, n, owner, need, came, turns, there⟩ ⟨4, n, -1, 0, [], 0, there⟩ p none c 0 w1 h (slat_nil w1))
  unfold Ce.val at HSM
  dsimp only [List.length_nil] at HSM
  have HP : Hid (ckP ⟨4, n, owner, need, came, turns, there⟩ = if (there || decide (n = 0)) && decide ((⟨4, n, owner, need, came, turns, there⟩ : Ce) = ⟨4, n, -1, 0, [], 0, there⟩) = true then 0 else 230) := by
    simp [Hid, ckP, okP, and_assoc]
  cases there with
  | true =>
    cases hd : decide ((⟨4, n, owner, need, came, turns, true⟩ : Ce) = ⟨4, n, -1, 0, [], 0, true⟩) <;>
    · rw [hd] at HSM HP
      clear hd
      go_enter Try.func46, Try.ntmps46
      go_wp2
      go_region
      go_wp2_with (go_at_call 56; refine (HSM.out _ ((hsl.alloc _).alloc _).drew).mono ?_; rintro e w9 ⟨rfl, hb9⟩)
      go_ret
      exact ⟨ret_int (by rw [HP.out]; rfl), ((((Below.refl _ _).alloc (Nat.le_refl _) _).alloc (by simp) _).drew).trans (hb9.mono (by simp; omega))⟩
  | false =>
    by_cases h1 : n = 0
    · have e1 : (n == 0) = true := by simpa using h1
      rw [decide_eq_true h1] at HP
      clear h1
      cases hd : decide ((⟨4, n, owner, need, came, turns, false⟩ : Ce) = ⟨4, n, -1, 0, [], 0, false⟩) <;>
      · rw [hd] at HSM HP
        clear hd
        go_enter Try.func46, Try.ntmps46
        go_wp2
        go_region
        go_wp2_with (go_at_call 56; refine (HSM.out _ ((hsl.alloc _).alloc _).drew).mono ?_; rintro e w9 ⟨rfl, hb9⟩)
        go_ret
        exact ⟨ret_int (by rw [HP.out]; rfl), ((((Below.refl _ _).alloc (Nat.le_refl _) _).alloc (by simp) _).drew).trans (hb9.mono (by simp; omega))⟩
    · have e1 : (n == 0) = false := by simpa using h1
      rw [decide_eq_false h1] at HP
      clear h1 HSM
      go_enter Try.func46, Try.ntmps46
      go_wp2
      go_region
      go_wp2
      go_ret
      exact ⟨ret_int (by rw [HP.out]; rfl), (((Below.refl _ _).alloc (Nat.le_refl _) _).alloc (by simp) _).drew⟩

set_option maxHeartbeats 2000000 in
theorem check_3 (n owner need turns : Int) (came : List Int) (there : Bool) (p : Option Addr) (c : Nat) (w : World) (hsl : SlAt w p c came) (hm : came.length ≤ 17592186043904) :
    Calls Try.prog 46 #[(Ce.mk 3 n owner need came turns there).val p c] w fun e w' => e = .returned (i64 (ckP ⟨3, n, owner, need, came, turns, there⟩)) ∧ Below w.heap.size w w' := by
  unfold Ce.val
  dsimp only
  have HSM := hid (fun w1 (h : SlAt w1 p c came) => same_any ⟨3, n, owner, need, came, turns, there⟩ ⟨3, 0, -1, need, came, turns, false⟩ p p c c w1 h h)
  have HG := hid (fun w1 (h : SlAt w1 p c came) => gate_any ⟨3, n, owner, need, came, turns, there⟩ p c w1 h hm)
  unfold Ce.val at HSM HG
  dsimp only at HSM HG
  have HP : Hid (ckP ⟨3, n, owner, need, came, turns, there⟩ = if gateP ⟨3, n, owner, need, came, turns, there⟩ && decide ((⟨3, n, owner, need, came, turns, there⟩ : Ce) = ⟨3, 0, -1, need, came, turns, false⟩) = true then 0 else 230) := by
    simp [Hid, ckP, okP, and_assoc]
  cases hg : gateP ⟨3, n, owner, need, came, turns, there⟩ with
  | true =>
    rw [hg] at HG HP
    cases hd : decide ((⟨3, n, owner, need, came, turns, there⟩ : Ce) = ⟨3, 0, -1, need, came, turns, false⟩) <;>
    · rw [hd] at HSM HP
      clear hd hg
      go_enter Try.func46, Try.ntmps46
      go_wp2
      go_region
      all_goals
        go_wp2_with (first
          | (go_at_call 55; refine (HG.out _ ((hsl.alloc _).alloc _).drew).mono ?_; rintro e w8 ⟨rfl, hb8⟩; obtain ⟨hc8, hf8⟩ := bcell hb8; have hs8 := SlAt.below ((hsl.alloc _).alloc _).drew hb8)
          | (go_at_call 56; refine (HSM.out _ hs8).mono ?_; rintro e w9 ⟨rfl, hb9⟩))
        go_ret
        exact ⟨ret_int (by rw [HP.out]; rfl), (((((Below.refl _ _).alloc (Nat.le_refl _) _).alloc (by simp) _).drew).trans (hb8.mono (by simp; omega))).trans (hb9.mono (by have := hb8.size; simp at this; omega))⟩
  | false =>
    rw [hg] at HG HP
    clear hg HSM
    go_enter Try.func46, Try.ntmps46
    go_wp2
    go_region
    all_goals
      go_wp2_with (go_at_call 55; refine (HG.out _ ((hsl.alloc _).alloc _).drew).mono ?_; rintro e w8 ⟨rfl, hb8⟩)
      go_ret
      exact ⟨ret_int (by rw [HP.out]; rfl), ((((Below.refl _ _).alloc (Nat.le_refl _) _).alloc (by simp) _).drew).trans (hb8.mono (by simp; omega))⟩

set_option maxHeartbeats 2000000 in
theorem check_x (kind n owner need turns : Int) (came : List Int) (there : Bool) (hk : kind ≠ 1 ∧ kind ≠ 2 ∧ kind ≠ 3 ∧ kind ≠ 4) (p : Option Addr) (c : Nat) (w : World) (hsl : SlAt w p c came) (hm : came.length ≤ 17592186043904) :
    Calls Try.prog 46 #[(Ce.mk kind n owner need came turns there).val p c] w fun e w' => e = .returned (i64 (ckP ⟨kind, n, owner, need, came, turns, there⟩)) ∧ Below w.heap.size w w' := by
  unfold Ce.val
  dsimp only
  obtain ⟨k1, k2, k3, k4⟩ := hk
  have e1 : (kind == 1) = false := by simpa using k1
  have e2 : (kind == 2) = false := by simpa using k2
  have e3 : (kind == 3) = false := by simpa using k3
  have e4 : (kind == 4) = false := by simpa using k4
  have HP : Hid (ckP ⟨kind, n, owner, need, came, turns, there⟩ = 230) := by simp [Hid, ckP, okP, k1, k2, k3, k4]
  clear k1 k2 k3 k4 hsl
  go_enter Try.func46, Try.ntmps46
  go_wp2
  go_ret
  exact ⟨ret_int (by rw [HP.out]), ((Below.refl _ _).alloc (Nat.le_refl _) _).alloc (by simp) _⟩

theorem check_any (x : Ce) (p : Option Addr) (c : Nat) (w : World) (hsl : SlAt w p c x.came) (hm : x.came.length ≤ 17592186043904) :
    Calls Try.prog 46 #[x.val p c] w fun e w' => e = .returned (i64 (ckP x)) ∧ Below w.heap.size w w' := by
  obtain ⟨kind, n, owner, need, came, turns, there⟩ := x
  dsimp only at hsl hm
  by_cases k1 : kind = 1
  · subst k1; exact check_1 n owner need turns came there p c w hsl hm
  · by_cases k2 : kind = 2
    · subst k2; exact check_2 n owner need turns came there p c w hsl hm
    · by_cases k3 : kind = 3
      · subst k3; exact check_3 n owner need turns came there p c w hsl hm
      · by_cases k4 : kind = 4
        · subst k4; exact check_4 n owner need turns came there p c w hsl hm
        · exact check_x kind n owner need turns came there ⟨k1, k2, k3, k4⟩ p c w hsl hm

end Go.Proofs.Ythmockfeffikjaa
