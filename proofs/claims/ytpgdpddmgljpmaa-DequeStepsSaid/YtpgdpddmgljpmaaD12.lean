/-
  New, whatever it is given.
-/
import Derived.Test.YtpgdpddmgljpmaaD10
namespace Go.Proofs.Ytpgdpddmgljpmaa
open Go.RowKit
variable {w w' : World}

abbrev NoDq (w : World) (n : Int) (e : Ending) (w' : World) : Prop := e = .returned (.tuple #[.pointer none, .int .i64 n]) ∧ Below w.heap.size w w'
variable {p1 p2 : Option Addr} {c1 c2 : Nat} {own : List (Int × Int)} {th : List Int}

theorem new_room (r : Int) (h : r < 1 ∨ 256 < r) (hl : th.length ≤ maxLen) :
    Calls Try.prog 10 #[.int .i64 r, .slice p1 own.length c1, .slice p2 th.length c2] w (NoDq w 1) := by
  unfold maxLen at hl
  rcases h with h | h
  · have h1 : decide (r < 1) = true := by simpa using h
    go_enter Try.func10, Try.ntmps10
    go_wp2
    go_ret2
    exact ⟨rfl, Below.refl _ _⟩
  · have h1 : decide (r < 1) = false := by simp; omega
    have h2 : decide (256 < r) = true := by simpa using h
    go_enter Try.func10, Try.ntmps10
    go_wp2
    go_ret2
    exact ⟨rfl, Below.refl _ _⟩
theorem new_many (r : Int) (h1 : 1 ≤ r) (h2 : r ≤ 256) (h : 63 < th.length) (hl : th.length ≤ maxLen) :
    Calls Try.prog 10 #[.int .i64 r, .slice p1 own.length c1, .slice p2 th.length c2] w (NoDq w 1) := by
  unfold maxLen at hl
  have g1 : decide (r < 1) = false := by simp; omega
  have g2 : decide (256 < r) = false := by simp; omega
  have g3 : decide (63 < (th.length : Int)) = true := by simp; omega
  go_enter Try.func10, Try.ntmps10
  go_wp2
  go_ret2
  exact ⟨rfl, Below.refl _ _⟩
theorem new_neg (r : Int) (h1 : 1 ≤ r) (h2 : r ≤ 256) (h : th.length ≤ 63) (hn : th.any (fun n => decide (n < 0)) = true) (HI : NewIn w p1 c1 own p2 c2 th) :
    Calls Try.prog 10 #[.int .i64 r, .slice p1 own.length c1, .slice p2 th.length c2] w (NoDq w 1) := by
  have g1 : decide (r < 1) = false := by simp; omega
  have g2 : decide (256 < r) = false := by simp; omega
  have g3 : decide (63 < (th.length : Int)) = false := by simp; omega
  have HC := hid (contains_any p2 c2 th h HI.r2)
  rw [hn] at HC
  clear hn
  go_enter Try.func10, Try.ntmps10
  go_wp2_with (go_at_call 33; refine HC.out.mono ?_; rintro e w2 ⟨rfl, hw2⟩; rw [hw2]; clear hw2)
  go_ret2
  exact ⟨rfl, Below.refl _ _⟩

theorem sum_pos : ∀ l : List Int, (∀ n ∈ l, 0 ≤ n) → 0 ≤ l.sum
  | [], _ => by simp
  | a :: b, h => by rw [List.sum_cons]; have := h a (by simp); have := sum_pos b (fun n hn => h n (by simp [hn])); omega
theorem sum_takes (th : List Int) (h : ∀ n ∈ th, 0 ≤ n) (k : Nat) : 0 ≤ (th.take k).sum ∧ (th.take k).sum ≤ th.sum := by
  have h1 := sum_pos (th.take k) (fun n hn => h n (List.mem_of_mem_take hn))
  have h2 := sum_pos (th.drop k) (fun n hn => h n (List.mem_of_mem_drop hn))
  have h3 : th.sum = (th.take k).sum + (th.drop k).sum := by rw [← List.sum_append, List.take_append_drop]
  omega

set_option maxHeartbeats 1000000 in
theorem new_long (r : Nat) (h1 : 1 ≤ r) (h2 : r ≤ 256) (h : th.length ≤ 63) (hneg : ∀ n ∈ th, 0 ≤ n) (HI : NewIn w p1 c1 own p2 c2 th) (hw : ∀ n ∈ th, n ≤ 9223372036854775807) (hol : own.length ≤ 140737488355328) (hs : 4096 < own.length + th.sum) :
    Calls Try.prog 10 #[.int .i64 r, .slice p1 own.length c1, .slice p2 th.length c2] w (NoDq w 3) := by
  have hany : th.any (fun n => decide (n < 0)) = false := by
    rw [List.any_eq_false]; intro n hn; have := hneg n hn; simp; omega
  have HC := hid (contains_any p2 c2 th h HI.r2)
  rw [hany] at HC
  have HNEG := hid hneg
  have HW := hid hw
  have HTK := hid (sum_takes th hneg)
  have hol2 : (own.length : Int) ≤ 140737488355328 := by omega
  clear hany hneg hw
  go_enter Try.func10, Try.ntmps10
  go_wp2_with (go_at_call 33; refine HC.out.mono ?_; rintro e w2 ⟨rfl, hw2⟩; rw [hw2]; clear hw2)
  go_loopw [8, 36] (fun v i wr => ∃ k : Nat, k ≤ th.length ∧ i = .int .i64 k ∧ v = .int .i64 (4096 - own.length - (th.take k).sum) ∧ (0 < k → (th.take k).sum ≤ 4096 - own.length) ∧ wr = w) (fun _ i _ => th.length - (intOf i).toNat)
  case atStart => exact ⟨0, Nat.zero_le _, rfl, by simp, fun h => absurd h (by decide), rfl⟩
  case round =>
    obtain ⟨k, hk, rfl, rfl, hpos, rfl⟩ := hrel
    have hsk := HTK.out k
    have HPOS := hid hpos
    clear hpos
    by_cases hlt : k < th.length
    · obtain ⟨b, o, rfl, _, hcell⟩ := HI.r2.at (by simp; omega)
      have hck := hcell k (by simpa using hlt)
      simp only [List.getElem_map] at hck
      have hS := hid (sum_take th k hlt)
      have hkI : (k : Int) < th.length := by omega
      have hn0 := HNEG.out _ (List.getElem_mem hlt)
      have hn1 := HW.out _ (List.getElem_mem hlt)
      have hs1 : (th.take k).sum ≤ 4096 := by
        by_cases hk0 : 0 < k
        · have := HPOS.out hk0; omega
        · have : k = 0 := by omega
          subst this; simp
      clear hcell
      generalize th[k] = x at *
      generalize (th.take k).sum = s at *
      by_cases g1 : 4096 - (own.length : Int) - s < 0
      · have g1' : decide (4096 - (own.length : Int) - s < 0) = true := by simpa using g1
        go_wp2
        go_ret2
        exact ⟨rfl, Below.refl _ _⟩
      · by_cases g2 : 4096 - (own.length : Int) - s < x
        · have g1' : decide (4096 - (own.length : Int) - s < 0) = false := by simpa using g1
          have g2' : decide (4096 - (own.length : Int) - s < x) = true := by simpa using g2
          go_wp2
          go_ret2
          exact ⟨rfl, Below.refl _ _⟩
        · go_wp2
          go_roundw
          case rel => exact ⟨k + 1, by omega, by go_num, by rw [hS.out]; show Value.int .i64 _ = Value.int .i64 _; congr 1; omega, fun _ => by rw [hS.out]; omega, trivial⟩
          case measure => simp [intOf]; omega
    · obtain rfl : k = th.length := by omega
      have ht : (th.take th.length).sum = th.sum := by rw [List.take_length]
      have hts : th.sum ≤ 4096 := by
        by_cases hk0 : 0 < th.length
        · have := HPOS.out hk0; omega
        · have : th = [] := List.eq_nil_of_length_eq_zero (by omega)
          subst this; simp
      rw [ht]
      have g1 : decide (4096 - (own.length : Int) - th.sum < 0) = true := by simp; omega
      clear hsk ht
      go_wp2
      go_ret2
      exact ⟨rfl, Below.refl _ _⟩

instance (o : Int × Int) : Decidable (opOk o) := by unfold opOk; infer_instance
set_option maxHeartbeats 1000000 in
theorem new_bad (r : Nat) (h1 : 1 ≤ r) (h2 : r ≤ 256) (h : th.length ≤ 63) (hneg : ∀ n ∈ th, 0 ≤ n) (HI : NewIn w p1 c1 own p2 c2 th) (hs : own.length + th.sum ≤ 4096) (hbad : ¬ ∀ o ∈ own, opOk o) :
    Calls Try.prog 10 #[.int .i64 r, .slice p1 own.length c1, .slice p2 th.length c2] w (NoDq w 240) := by
  have hany : th.any (fun n => decide (n < 0)) = false := by
    rw [List.any_eq_false]; intro n hn; have := hneg n hn; simp; omega
  have HC := hid (contains_any p2 c2 th h HI.r2)
  rw [hany] at HC
  have HNEG := hid hneg
  have HBAD := hid hbad
  have HTK := hid (sum_takes th hneg)
  have hol : (own.length : Int) ≤ 4096 := by have := HTK.out 0; simp at this; omega
  clear hany hneg hbad
  go_enter Try.func10, Try.ntmps10
  go_wp2_with (go_at_call 33; refine HC.out.mono ?_; rintro e w2 ⟨rfl, hw2⟩; rw [hw2]; clear hw2)
  go_loopw [8, 36] (fun v i wr => ∃ k : Nat, k ≤ th.length ∧ i = .int .i64 k ∧ v = .int .i64 (4096 - own.length - (th.take k).sum) ∧ wr = w) (fun _ i _ => th.length - (intOf i).toNat)
  case atStart => exact ⟨0, Nat.zero_le _, rfl, by simp, rfl⟩
  case round =>
    obtain ⟨k, hk, rfl, rfl, rfl⟩ := hrel
    have hsk := HTK.out k
    by_cases hlt : k < th.length
    · obtain ⟨b, o, rfl, _, hcell⟩ := HI.r2.at (by simp; omega)
      have hck := hcell k (by simpa using hlt)
      simp only [List.getElem_map] at hck
      have hS := hid (sum_take th k hlt)
      have hs2 := HTK.out (k + 1)
      rw [hS.out] at hs2
      have hkI : (k : Int) < th.length := by omega
      have hn0 := HNEG.out _ (List.getElem_mem hlt)
      clear hcell
      generalize th[k] = x at *
      generalize (th.take k).sum = s at *
      have g1 : ¬ (4096 - (own.length : Int) - s < 0) := by omega
      have g2 : ¬ (4096 - (own.length : Int) - s < x) := by omega
      go_wp2
      go_roundw
      case rel => exact ⟨k + 1, by omega, by go_num, by rw [hS.out]; show Value.int .i64 _ = Value.int .i64 _; congr 1; omega, trivial⟩
      case measure => simp [intOf]; omega
    · obtain rfl : k = th.length := by omega
      have ht : (th.take th.length).sum = th.sum := by rw [List.take_length]
      rw [ht]
      have g1 : ¬ (4096 - (own.length : Int) - th.sum < 0) := by omega
      clear hsk ht
      go_wp2
      obtain ⟨w0, hw0⟩ : ∃ w0, w0 = wr := ⟨_, rfl⟩
      subst hw0
      go_loopw [55] (fun i wx => ∃ k : Nat, k ≤ own.length ∧ i = .int .i64 k ∧ (∀ j (hj : j < own.length), j < k → opOk own[j]) ∧ Below w0.heap.size w0 wx) (fun i _ => own.length - (intOf i).toNat)
      case atStart => exact ⟨0, Nat.zero_le _, rfl, fun j _ h => absurd h (Nat.not_lt_zero _), Below.refl _ _⟩
      case round =>
        obtain ⟨k, hk, rfl, hall, hbx⟩ := hrel
        have HALL := hid hall
        clear hall
        by_cases hlt : k < own.length
        · obtain ⟨b, o, rfl, hbw, _⟩ := (HI.below hbx).r1.at (by rw [opCells_len]; omega)
          obtain ⟨o1, o2⟩ := op_cells (HI.below hbx).r1 k hlt
          have hkI : (k : Int) < own.length := by omega
          have hsz := hbx.size
          have HNX := hid (fun (h : opOk own[k]) => (fun j (hj : j < own.length) (hjk : j < k + 1) => if e : j = k then by subst e; exact h else HALL.out j hj (by omega) : ∀ j (hj : j < own.length), j < k + 1 → opOk own[j]))
          rcases hx : own[k] with ⟨x1, x2⟩
          rw [hx] at o1 o2 HNX
          clear hx
          dsimp only at o1 o2
          have HB1 := hid (hbx.alloc hsz (.cells #[.int .i64 x1, .int .i64 x2] 27))
          by_cases k1 : x1 = 1
          · subst k1
            have HN := hid (HNX.out ⟨.inl rfl, fun h => by cases h⟩)
            clear HNX
            go_wp2
            go_roundw
            case rel => exact ⟨k + 1, by omega, by go_num, HN.out, HB1.out⟩
            case measure => simp [intOf]; omega
          · by_cases k2 : x1 = 2
            · subst k2
              by_cases k3 : x2 = 0
              · subst k3
                have HN := hid (HNX.out ⟨.inr rfl, fun _ => rfl⟩)
                clear HNX
                go_wp2
                go_roundw
                case rel => exact ⟨k + 1, by omega, by go_num, HN.out, HB1.out⟩
                case measure => simp [intOf]; omega
              · have k3' : (x2 != 0) = true := by simpa using k3
                clear HNX k3
                go_wp2
                go_ret2
                exact ⟨rfl, HB1.out⟩
            · have g1 : (x1 != 1) = true := by simpa using k1
              have g2 : (x1 != 2) = true := by simpa using k2
              have g3 : (x1 == 2) = false := by simpa using k2
              clear HNX k1 k2
              go_wp2
              go_ret2
              exact ⟨rfl, HB1.out⟩
        · exfalso
          exact HBAD.out (fun o ho => by
            obtain ⟨j, hj, rfl⟩ := List.mem_iff_getElem.1 ho
            exact HALL.out j hj (by omega))

/-- What is wrong with what New is given. -/
def newE (r : Int) (own : List (Int × Int)) (th : List Int) : Int :=
  if r < 1 ∨ 256 < r ∨ 63 < th.length ∨ th.any (fun n => decide (n < 0)) = true then 1
  else if 4096 < own.length + th.sum then 3
  else if ¬ (∀ o ∈ own, opOk o) then 240 else 0
def NewPost (w : World) (r : Int) (own : List (Int × Int)) (th : List Int) (e : Ending) (w' : World) : Prop :=
  (newE r own th = 0 ∧ ∃ (d P c : Nat) (hsv : Value) (hb : Nat → Nat) (sv wv : Nat → Value), e = .returned (.tuple #[.pointer (some ⟨d, 0, none⟩), .int .i64 0]) ∧ DqIs w' w.heap.size d P c hsv hb sv wv (newDq r.toNat own th) ∧ Below w.heap.size w w') ∨
  (newE r own th ≠ 0 ∧ e = .returned (.tuple #[.pointer none, .int .i64 (newE r own th)]) ∧ Below w.heap.size w w')
theorem new_any (r : Int) (HI : NewIn w p1 c1 own p2 c2 th) (hol : own.length ≤ 140737488355328) (hl : th.length ≤ maxLen) (hw : ∀ n ∈ th, n ≤ 9223372036854775807) :
    Calls Try.prog 10 #[.int .i64 r, .slice p1 own.length c1, .slice p2 th.length c2] w (NewPost w r own th) := by
  have bad : ∀ n, n ≠ 0 → newE r own th = n → Calls Try.prog 10 #[.int .i64 r, .slice p1 own.length c1, .slice p2 th.length c2] w (NoDq w n) → Calls Try.prog 10 #[.int .i64 r, .slice p1 own.length c1, .slice p2 th.length c2] w (NewPost w r own th) := fun n h0 hn h => h.mono fun e w' ⟨he, hb⟩ => .inr ⟨by rw [hn]; exact h0, by rw [hn]; exact he, hb⟩
  by_cases h1 : r < 1 ∨ 256 < r
  · exact bad 1 (by decide) (if_pos (h1.elim .inl (fun h => .inr (.inl h)))) (new_room r h1 hl)
  · by_cases h2 : 63 < th.length
    · exact bad 1 (by decide) (if_pos (.inr (.inr (.inl h2)))) (new_many r (by omega) (by omega) h2 hl)
    · cases h3 : th.any (fun n => decide (n < 0)) with
      | true => exact bad 1 (by decide) (if_pos (.inr (.inr (.inr h3)))) (new_neg r (by omega) (by omega) (by omega) h3 HI)
      | false =>
        have hneg : ∀ n ∈ th, 0 ≤ n := fun n hn => by
          have := List.any_eq_false.1 h3 n hn
          simp at this; exact this
        have e0 : ¬ (r < 1 ∨ 256 < r ∨ 63 < th.length ∨ th.any (fun n => decide (n < 0)) = true) := by rw [h3]; simp; omega
        obtain ⟨n, rfl⟩ : ∃ n : Nat, r = n := ⟨r.toNat, by omega⟩
        by_cases h4 : 4096 < own.length + th.sum
        · exact bad 3 (by decide) (by unfold newE; rw [if_neg e0, if_pos h4]) (new_long n (by omega) (by omega) (by omega) hneg HI hw hol h4)
        · by_cases h5 : ∀ o ∈ own, opOk o
          · refine (new_ok n (by omega) (by omega) p1 c1 own p2 c2 th HI (by omega) hneg (by omega) h5).mono fun e w' h => .inl ⟨?_, h⟩
            unfold newE; rw [if_neg e0, if_neg h4, if_neg (fun h => h h5)]
          · exact bad 240 (by decide) (by unfold newE; rw [if_neg e0, if_neg h4, if_pos h5]) (new_bad n (by omega) (by omega) (by omega) hneg HI (by omega) h5)
end Go.Proofs.Ytpgdpddmgljpmaa
