/-
  Symbols: which may be: the document's walk.
-/
import Derived.Test.YteccpmmedpkddaaSym
namespace Go.Proofs.Yteccpmmedpkddaa
open Go.RowKit

def noZ (s : ByteArray) (k : Nat) : Bool := !(s.data.toList.take k).contains 0
theorem noZ_succ (s : ByteArray) (k : Nat) (h : k < s.size) (hc : ¬ (s[k].toNat : Int) = 0) (hk : noZ s k = true) : noZ s (k + 1) = true := by
  unfold noZ at hk ⊢
  rw [List.take_succ_eq_append_getElem (by simpa using h)]
  simp at hk ⊢
  refine ⟨hk, fun e => hc ?_⟩
  have : s[k] = 0 := e.symm
  rw [this]; rfl
theorem noZ_false (s : ByteArray) (k : Nat) (h : k < s.size) (hc : (s[k].toNat : Int) = 0) : hasZero s = true := by
  unfold hasZero
  rw [List.contains_iff_mem]
  have h2 : s[k] ∈ s.data.toList := by
    have : s[k] = s.data.toList[k]'(by simpa using h) := rfl
    rw [this]; exact List.getElem_mem _
  have h3 : s[k] = 0 := by
    apply UInt8.toNat_inj.1
    have : (s[k].toNat : Int) = 0 := hc
    simp at this ⊢
    exact this
  rwa [h3] at h2
theorem noZ_all (s : ByteArray) (h : noZ s s.size = true) : hasZero s = false := by
  unfold noZ at h
  unfold hasZero
  rw [List.take_of_length_le (show s.data.toList.length ≤ s.size from Nat.le_refl _)] at h
  simpa using h

set_option maxRecDepth 20000 in
set_option maxHeartbeats 8000000 in
theorem rsymbol_any (x : Sy) (p : Option Addr) (c : Nat) (l : List Sc) (w : World) (hx : x.ok) (hrow : Row w p (l.flatMap Sc.cells)) (hl : l.length ≤ 4398046510976) :
    Calls Try.prog 41 #[.agg x.cells.toArray, .slice p l.length c] w fun e w' => e = .returned (.bool (symP x l)) ∧ Below w.heap.size w w' := by
  have HP : Hid (symP x l = (decide (1 ≤ x.name.size) && decide (x.name.size ≤ 255) && !hasZero x.name && symTail x l)) := rfl
  unfold symTail at HP
  obtain ⟨hxn, hx1, hx2⟩ := hx
  obtain ⟨name, sec, val, glob⟩ := x
  dsimp only at HP hxn hx1 hx2 ⊢
  show Calls Try.prog 41 #[.agg #[.string name, .int .i64 sec, .int .i64 val, .bool glob], .slice p l.length c] w _
  have hbx : Below w.heap.size w (w.alloc (.cells #[.string name, .int .i64 sec, .int .i64 val, .bool glob] 36)) := (Below.refl _ _).alloc (Nat.le_refl _) _
  by_cases h1 : 1 ≤ name.size
  case neg =>
    have h1' : name.size < 1 := by omega
    have H1 := hid (decide_eq_false h1)
    go_enter Try.func41, Try.ntmps41
    go_wp2
    go_ret
    exact ⟨ret_bool (by rw [HP.out, H1.out]; simp), hbx⟩
  by_cases h2 : name.size ≤ 255
  case neg =>
    have h2' : 255 < name.size := by omega
    have H2 := hid (decide_eq_false h2)
    go_enter Try.func41, Try.ntmps41
    go_wp2
    go_ret
    exact ⟨ret_bool (by rw [HP.out, H2.out]; simp), hbx⟩
  have H1 := hid (decide_eq_true h1)
  have H2 := hid (decide_eq_true h2)
  go_enter Try.func41, Try.ntmps41
  go_wp2
  go_loop [5] (fun i => ∃ k : Nat, k ≤ name.size ∧ i = .int .i64 k ∧ noZ name k = true) (fun i => name.size - (intOf i).toNat)
  case atStart => exact ⟨0, Nat.zero_le _, rfl, by simp [noZ]⟩
  case round =>
    obtain ⟨k, hk, rfl, hok⟩ := hrel
    have HOK := hid hok
    clear hok
    by_cases hlt : k < name.size
    · have HS := hid (noZ_succ name k hlt)
      have HF := hid (noZ_false name k hlt)
      by_cases hc : ((name[k].toNat : Int)) = 0
      · have hc' : ((name[k].toNat : Int) == 0) = true := by simpa using hc
        have HC := hid hc
        clear hc
        go_wp2
        go_ret
        exact ⟨ret_bool (by rw [HP.out, HF.out HC.out]; simp), hbx⟩
      · have hc' : ((name[k].toNat : Int) == 0) = false := by simpa using hc
        go_wp2
        go_round
        case rel => exact ⟨k + 1, by omega, by go_num, HS.out hc HOK.out⟩
        case measure => simp [intOf]; omega
    · obtain rfl : k = name.size := by omega
      have HZ := hid (noZ_all name HOK.out)
      by_cases h4 : sec = -2
      case pos =>
        subst h4
        go_wp2
        go_ret
        exact ⟨ret_bool (by rw [HP.out, H1.out, H2.out, HZ.out]; simp), hbx⟩
      have h4' : (sec == -2) = false := by simpa using h4
      by_cases h3 : sec = -1
      case pos =>
        subst h3
        cases glob
        all_goals
          go_wp2
          all_goals (go_ret; refine ⟨ret_bool ?_, hbx⟩; rw [HP.out, H1.out, H2.out, HZ.out])
          all_goals first | (simp; done) | (rw [Bool.eq_iff_iff]; simp)
      have h3' : (sec == -1) = false := by simpa using h3
      have H3 : Hid (symP ⟨name, sec, val, glob⟩ l = (decide (0 ≤ sec) && decide (sec < l.length) && decide (0 ≤ val) && decide (val ≤ secSize l sec))) := by rw [Hid, HP.out, H1.out, H2.out, HZ.out, if_neg h3, if_neg h4]; simp
      by_cases h5 : 0 ≤ sec
      case neg =>
        have h5' : sec < 0 := by omega
        have hd5 := decide_eq_false h5
        have H5 := hid hd5
        clear h5
        go_wp2
        go_quiet (fail)
        go_wp2
        go_ret
        exact ⟨ret_bool (by rw [H3.out, H5.out]; simp), below_drewN hbx _⟩
      have H5 := hid (decide_eq_true h5)
      by_cases h6 : sec < l.length
      case neg =>
        have h6' : (l.length : Int) ≤ sec := by omega
        have hd6 := decide_eq_false h6
        have H6 := hid hd6
        clear h6
        go_wp2
        go_quiet (fail)
        go_wp2
        go_ret
        exact ⟨ret_bool (by rw [H3.out, H6.out]; simp), below_drewN hbx _⟩
      have H6 := hid (decide_eq_true h6)
      by_cases h7 : 0 ≤ val
      case neg =>
        have h7' : val < 0 := by omega
        have hd7 := decide_eq_false h7
        have H7 := hid hd7
        clear h7
        go_wp2
        go_quiet (fail)
        go_wp2
        go_ret
        exact ⟨ret_bool (by rw [H3.out, H7.out]; simp), below_drewN hbx _⟩
      have H7 := hid (decide_eq_true h7)
      obtain ⟨j, rfl⟩ : ∃ k : Nat, sec = k := ⟨sec.toNat, by omega⟩
      have hk : j < l.length := by omega
      have hkn : ((j : Int)).toNat = j := by omega
      obtain ⟨b, o, rfl, hb, hcc⟩ := sec_cell hrow j hk
      generalize secSize l j = S at hcc H3
      clear hrow
      have H8 : Hid (symP ⟨name, j, val, glob⟩ l = decide (val ≤ S)) := by rw [Hid, H3.out, H5.out, H6.out, H7.out]; simp
      clear H3
      go_wp2
      go_quiet (fail)
      go_wp2
      go_ret
      exact ⟨ret_bool H8.out.symm, below_drewN hbx _⟩
end Go.Proofs.Yteccpmmedpkddaa
