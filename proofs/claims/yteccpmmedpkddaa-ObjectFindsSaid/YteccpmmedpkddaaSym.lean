/-
  Symbols: which may be, and their order.
-/
import Derived.Test.YteccpmmedpkddaaSec
import Derived.Lib.IndexAny
namespace Go.Proofs.Yteccpmmedpkddaa
open Go.RowKit

def aheadP (a b : Sy) : Bool := if a.glob = b.glob then Op.bytesLess a.name.toList b.name.toList else b.glob
def orderP (a b : Sy) : Int := if a.glob = b.glob then Lib.compareBytes a.name.data.toList b.name.data.toList else if b.glob then -1 else 1

theorem ahead_any (a b : Sy) (w : World) : Calls Try.prog 42 #[.agg a.cells.toArray, .agg b.cells.toArray] w fun e w' => e = .returned (.bool (aheadP a b)) ∧ Below w.heap.size w w' := by
  unfold aheadP
  obtain ⟨an, asec, av, ag⟩ := a
  obtain ⟨bn, bsec, bv, bg⟩ := b
  show Calls Try.prog 42 #[.agg #[.string an, .int .i64 asec, .int .i64 av, .bool ag], .agg #[.string bn, .int .i64 bsec, .int .i64 bv, .bool bg]] w _
  cases ag <;> cases bg
  all_goals
    go_enter Try.func42, Try.ntmps42
    go_wp2
    go_ret
    exact ⟨ret_bool rfl, ((Below.refl _ _).alloc (Nat.le_refl _) _).alloc (by simp) _⟩
theorem order_any (a b : Sy) (w : World) : Calls Try.prog 39 #[.agg a.cells.toArray, .agg b.cells.toArray] w fun e w' => e = .returned (.int .i64 (orderP a b)) ∧ Below w.heap.size w w' := by
  unfold orderP
  obtain ⟨an, asec, av, ag⟩ := a
  obtain ⟨bn, bsec, bv, bg⟩ := b
  show Calls Try.prog 39 #[.agg #[.string an, .int .i64 asec, .int .i64 av, .bool ag], .agg #[.string bn, .int .i64 bsec, .int .i64 bv, .bool bg]] w _
  cases ag <;> cases bg
  all_goals
    go_enter Try.func39, Try.ntmps39
    go_wp2_with (go_at_call 65; refine (Try.strings_Compare _ _ _).mono ?_; rintro e w' ⟨rfl, rfl⟩)
    go_ret
    exact ⟨ret_int rfl, ((Below.refl _ _).alloc (Nat.le_refl _) _).alloc (by simp) _⟩

def hasZero (s : ByteArray) : Bool := s.data.toList.contains 0
theorem idx0_yes (s : ByteArray) (w : World) (h : hasZero s = true) : Calls Try.prog 64 #[.string s, .int .u8 0] w fun e w' => ∃ r : Int, 0 ≤ r ∧ e = .returned (.int .i64 r) ∧ w = w' := by
  refine (Try.strings_IndexByte s 0 w).mono fun e w' ⟨he, hw⟩ => ⟨_, ?_, he, hw.symm⟩
  have := Lib.contains_iff_indexByte s.data.toList 0
  unfold hasZero at h
  rw [h] at this
  exact of_decide_eq_true this.symm
theorem idx0_no (s : ByteArray) (w : World) (h : hasZero s = false) : Calls Try.prog 64 #[.string s, .int .u8 0] w fun e w' => ∃ r : Int, r < 0 ∧ e = .returned (.int .i64 r) ∧ w = w' := by
  refine (Try.strings_IndexByte s 0 w).mono fun e w' ⟨he, hw⟩ => ⟨_, ?_, he, hw.symm⟩
  have := Lib.contains_iff_indexByte s.data.toList 0
  unfold hasZero at h
  rw [h] at this
  have h2 := of_decide_eq_false this.symm
  have e0 : (0 : Int).toNat.toUInt8 = 0 := rfl
  rw [e0]
  omega

def secSize (l : List Sc) (k : Int) : Int := (l.map Sc.size).getD k.toNat 0
def symTail (x : Sy) (l : List Sc) : Bool :=
  if x.sec = -1 then x.glob && decide (x.val = 0) else if x.sec = -2 then true else decide (0 ≤ x.sec) && decide (x.sec < l.length) && decide (0 ≤ x.val) && decide (x.val ≤ secSize l x.sec)
def symP (x : Sy) (l : List Sc) : Bool := decide (1 ≤ x.name.size) && decide (x.name.size ≤ 255) && !hasZero x.name && symTail x l

/-- The size of the section that a symbol names. -/
theorem sec_cell {w : World} {p : Option Addr} {l : List Sc} (hrow : Row w p (l.flatMap Sc.cells)) (k : Nat) (hk : k < l.length) :
    ∃ b o, p = some ⟨b, o, none⟩ ∧ b < w.heap.size ∧ w.cell? ⟨b, o + k * 6 + 3, none⟩ = some (.int .i64 (secSize l k)) := by
  obtain ⟨b, o, rfl, hb, _⟩ := hrow.at (by have := flat_len Sc.cells 6 (fun _ => rfl) l; omega)
  obtain ⟨_, _, _, h, _⟩ := sc_cells hrow k hk
  refine ⟨b, o, rfl, hb, ?_⟩
  rw [h]
  simp [secSize, hk]

set_option maxRecDepth 20000 in
set_option maxHeartbeats 8000000 in
theorem symbol_any (x : Sy) (p : Option Addr) (c : Nat) (l : List Sc) (w : World) (hx : x.ok) (hrow : Row w p (l.flatMap Sc.cells)) (hl : l.length ≤ 4398046510976) :
    Calls Try.prog 37 #[.agg x.cells.toArray, .slice p l.length c] w fun e w' => e = .returned (.bool (symP x l)) ∧ Below w.heap.size w w' := by
  have HP : Hid (symP x l = (decide (1 ≤ x.name.size) && decide (x.name.size ≤ 255) && !hasZero x.name && symTail x l)) := rfl
  have HI := hid (fun w => idx0_yes x.name w)
  have HJ := hid (fun w => idx0_no x.name w)
  unfold symTail at HP
  obtain ⟨hxn, hx1, hx2⟩ := hx
  obtain ⟨name, sec, val, glob⟩ := x
  dsimp only at HP HI HJ hxn hx1 hx2 ⊢
  show Calls Try.prog 37 #[.agg #[.string name, .int .i64 sec, .int .i64 val, .bool glob], .slice p l.length c] w _
  have hbx : Below w.heap.size w (w.alloc (.cells #[.string name, .int .i64 sec, .int .i64 val, .bool glob] 36)) := (Below.refl _ _).alloc (Nat.le_refl _) _
  by_cases h1 : 1 ≤ name.size
  case neg =>
    have h1' : name.size < 1 := by omega
    have H1 := hid (decide_eq_false h1)
    go_enter Try.func37, Try.ntmps37
    go_wp2
    go_ret
    exact ⟨ret_bool (by rw [HP.out, H1.out]; simp), hbx⟩
  by_cases h2 : name.size ≤ 255
  case neg =>
    have h2' : 255 < name.size := by omega
    have H2 := hid (decide_eq_false h2)
    go_enter Try.func37, Try.ntmps37
    go_wp2
    go_ret
    exact ⟨ret_bool (by rw [HP.out, H2.out]; simp), hbx⟩
  have H1 := hid (decide_eq_true h1)
  have H2 := hid (decide_eq_true h2)
  obtain ⟨z, hz⟩ : ∃ z, hasZero name = z := ⟨_, rfl⟩
  rw [hz] at HI HJ HP
  clear hz
  cases z with
  | true =>
    go_enter Try.func37, Try.ntmps37
    go_wp2_with (go_at_call 64; refine (HI.out _ rfl).mono ?_; rintro e w' ⟨r, hr, rfl, rfl⟩)
    go_ret
    exact ⟨ret_bool (by rw [HP.out]; simp), hbx⟩
  | false =>
    by_cases h3 : sec = -1
    case pos =>
      subst h3
      have H3 : Hid (symP ⟨name, -1, val, glob⟩ l = (glob && decide (val = 0))) := by rw [Hid, HP.out, H1.out, H2.out]; simp
      cases glob
      all_goals
        go_enter Try.func37, Try.ntmps37
        go_wp2_with (go_at_call 64; refine (HJ.out _ rfl).mono ?_; rintro e w' ⟨r, hr, rfl, rfl⟩)
        all_goals (go_ret; refine ⟨ret_bool ?_, hbx⟩; rw [H3.out])
        all_goals first | rfl | (rw [Bool.eq_iff_iff]; simp)
    have h3' : (sec == -1) = false := by simpa using h3
    by_cases h4 : sec = -2
    case pos =>
      subst h4
      have H3 : Hid (symP ⟨name, -2, val, glob⟩ l = true) := by rw [Hid, HP.out, H1.out, H2.out]; simp
      go_enter Try.func37, Try.ntmps37
      go_wp2_with (go_at_call 64; refine (HJ.out _ rfl).mono ?_; rintro e w' ⟨r, hr, rfl, rfl⟩)
      go_ret
      exact ⟨ret_bool H3.out.symm, hbx⟩
    have h4' : (sec == -2) = false := by simpa using h4
    have H3 : Hid (symP ⟨name, sec, val, glob⟩ l = (decide (0 ≤ sec) && decide (sec < l.length) && decide (0 ≤ val) && decide (val ≤ secSize l sec))) := by rw [Hid, HP.out, H1.out, H2.out, if_neg h3, if_neg h4]; simp
    by_cases h5 : 0 ≤ sec
    case neg =>
      have h5' : sec < 0 := by omega
      have hd5 := decide_eq_false h5
      have H5 := hid hd5
      clear h5
      go_enter Try.func37, Try.ntmps37
      go_wp2_with (go_at_call 64; refine (HJ.out _ rfl).mono ?_; rintro e w' ⟨r, hr, rfl, rfl⟩)
      go_quiet (fail)
      go_wp2
      go_ret
      exact ⟨ret_bool (by rw [H3.out, H5.out]; simp), below_drewN hbx _⟩
    have H5 := hid (decide_eq_true h5)
    by_cases h6 : sec < l.length
    case neg =>
      have h6' : (l.length : Int) ≤ sec := by omega
      have hd6 := decide_eq_false h6
      have H6 := hid hd6
      clear h6
      go_enter Try.func37, Try.ntmps37
      go_wp2_with (go_at_call 64; refine (HJ.out _ rfl).mono ?_; rintro e w' ⟨r, hr, rfl, rfl⟩)
      go_quiet (fail)
      go_wp2
      go_ret
      exact ⟨ret_bool (by rw [H3.out, H6.out]; simp), below_drewN hbx _⟩
    have H6 := hid (decide_eq_true h6)
    by_cases h7 : 0 ≤ val
    case neg =>
      have h7' : val < 0 := by omega
      have hd7 := decide_eq_false h7
      have H7 := hid hd7
      clear h7
      go_enter Try.func37, Try.ntmps37
      go_wp2_with (go_at_call 64; refine (HJ.out _ rfl).mono ?_; rintro e w' ⟨r, hr, rfl, rfl⟩)
      go_quiet (fail)
      go_wp2
      go_ret
      exact ⟨ret_bool (by rw [H3.out, H7.out]; simp), below_drewN hbx _⟩
    have H7 := hid (decide_eq_true h7)
    obtain ⟨k, rfl⟩ : ∃ k : Nat, sec = k := ⟨sec.toNat, by omega⟩
    have hk : k < l.length := by omega
    have hkn : ((k : Int)).toNat = k := by omega
    obtain ⟨b, o, rfl, hb, hc⟩ := sec_cell hrow k hk
    generalize secSize l k = S at hc H3
    clear hrow
    have H8 : Hid (symP ⟨name, k, val, glob⟩ l = decide (val ≤ S)) := by rw [Hid, H3.out, H5.out, H6.out, H7.out]; simp
    clear H3
    go_enter Try.func37, Try.ntmps37
    go_wp2_with (go_at_call 64; refine (HJ.out _ rfl).mono ?_; rintro e w' ⟨r, hr, rfl, rfl⟩)
    go_quiet (fail)
    go_wp2
    go_ret
    exact ⟨ret_bool H8.out.symm, below_drewN hbx _⟩
end Go.Proofs.Yteccpmmedpkddaa
