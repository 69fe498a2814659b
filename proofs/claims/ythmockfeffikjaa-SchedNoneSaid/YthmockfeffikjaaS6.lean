/-
  The machine of lists behind the interface: able, Pick, Finished.
-/
import Derived.Test.YthmockfeffikjaaS5
namespace Go.Proofs.Ythmockfeffikjaa
open Go.RowKit
variable {W W' : World} {base L : Nat} {S : SL} {fw fc : Nat → Prop}

def mi (L : Nat) : Value := .iface 35 (.pointer (some ⟨L, 0, none⟩))
theorem m_workers (a : Addr) (w : World) : (method 235 35 (.pointer (some a)) "Workers").run Try.prog w = .ok (25, .pointer (some a)) w := by kernel_rfl
theorem m_done (a : Addr) (w : World) : (method 235 35 (.pointer (some a)) "Done").run Try.prog w = .ok (26, .pointer (some a)) w := by kernel_rfl
theorem m_waits (a : Addr) (w : World) : (method 235 35 (.pointer (some a)) "Waits").run Try.prog w = .ok (27, .pointer (some a)) w := by kernel_rfl
theorem m_step (a : Addr) (w : World) : (method 235 35 (.pointer (some a)) "Step").run Try.prog w = .ok (24, .pointer (some a)) w := by kernel_rfl
theorem below_tr {B : Nat} {W w1 w2 : World} (h2 : Below w1.heap.size w1 w2) (h1 : Below B W w1) (hB : B ≤ W.heap.size) : Below B W w2 := h1.trans (h2.mono (Nat.le_trans hB h1.size))
theorem next_out {n : Int} (h : ¬ (0 ≤ n ∧ n < S.work.length)) : S.canN n = false := by
  unfold SL.canN SL.doneN SL.next
  rw [if_neg h]; rfl

set_option maxRecDepth 100000 in
set_option maxHeartbeats 2000000 in
theorem able_any (H : LM W base L S fc fw) (n : Int) : Calls Try.prog 31 #[mi L, i64 n] W fun e w' => e = .returned (.bool (S.canN n)) ∧ Below W.heap.size W w' := by
  unfold mi
  have HW := hid (lworkers_any H)
  have HD := hid (ldone_any H n)
  have HWT := hid (fun w' (hb : Below W.heap.size W w') => lwaits_any (H.below hb) n)
  have k1 := m_workers
  have k2 := m_done
  have k3 := m_waits
  clear H
  by_cases h0 : 0 ≤ n
  · by_cases h1 : n < S.work.length
    · have HC : Hid (S.canN n = (!S.doneN n && !S.waitsN n)) := rfl
      generalize S.doneN n = td at *
      generalize S.waitsN n = tw at *
      cases td
      · go_enter Try.func31, Try.ntmps31
        go_wp2_with (first
          | (go_at_call 25; (with_reducible refine HW.out.mono ?_); rintro e w' ⟨rfl, rfl⟩)
          | (go_at_call 26; (with_reducible refine HD.out.mono ?_); rintro e w2 ⟨rfl, hb2⟩; have HB2 := hid hb2; clear hb2)
          | (go_at_call 27; (with_reducible refine (HWT.out _ HB2.out).mono ?_); rintro e w3 ⟨rfl, hb3⟩; have HB3 := hid hb3; clear hb3))
        go_ret
        exact ⟨ret_bool (by rw [HC.out]; cases tw <;> rfl), below_tr HB3.out HB2.out (Nat.le_refl _)⟩
      · go_enter Try.func31, Try.ntmps31
        go_wp2_with (first
          | (go_at_call 25; (with_reducible refine HW.out.mono ?_); rintro e w' ⟨rfl, rfl⟩)
          | (go_at_call 26; (with_reducible refine HD.out.mono ?_); rintro e w2 ⟨rfl, hb2⟩; have HB2 := hid hb2; clear hb2))
        go_ret
        exact ⟨ret_bool (by rw [HC.out]; rfl), HB2.out⟩
    · have HC : Hid (S.canN n = false) := next_out (by omega)
      go_enter Try.func31, Try.ntmps31
      go_wp2_with (go_at_call 25; (with_reducible refine HW.out.mono ?_); rintro e w' ⟨rfl, rfl⟩)
      go_ret
      exact ⟨ret_bool (by first | (rw [HC.out]; done) | (rw [HC.out]; simpa using h1)), Below.refl _ _⟩
  · have HC : Hid (S.canN n = false) := next_out (by omega)
    go_enter Try.func31, Try.ntmps31
    go_wp2
    go_ret
    exact ⟨ret_bool (by rw [HC.out]), Below.refl _ _⟩

/-- A step of whoever can go on. -/
def SL.pickN (S : SL) (n : Int) : SL := if S.canN n then S.stepN n else S
set_option maxRecDepth 100000 in
set_option maxHeartbeats 2000000 in
theorem pick_any (H : LM W base L S fc fw) (n : Int) : Calls Try.prog 23 #[mi L, i64 n] W fun e w' => e = .returned (.bool (S.canN n)) ∧ ∃ fc', LM w' base L (S.pickN n) fc' fw ∧ (∀ k, fc' k → fc k ∨ W.heap.size ≤ k) ∧ Turn fc W w' ∧ Below base W w' := by
  have HA := hid (able_any H n)
  have HS := hid (fun w' (hb : Below W.heap.size W w') => lstep_any (H.below hb) n)
  have HB := hid (fun w' (hb : Below W.heap.size W w') => H.below hb)
  have hbs : Hid (base ≤ W.heap.size) := by obtain ⟨_, _, _, _, _, _, _, _, _, h, _⟩ := H; exact h.bs
  have k4 := m_step
  unfold mi at *
  unfold LStep at HS
  unfold SL.pickN
  clear H
  cases hc : S.canN n
  · rw [hc] at HA
    clear hc
    go_enter Try.func23, Try.ntmps23
    go_wp2_with (go_at_call 31; (with_reducible refine HA.out.mono ?_); rintro e w2 ⟨rfl, hb2⟩; have HB2 := hid hb2; clear hb2)
    go_ret
    exact ⟨rfl, fc, HB.out _ HB2.out, fun _ h => .inl h, Turn.of_below HB2.out, HB2.out.mono hbs.out⟩
  · rw [hc] at HA
    clear hc
    go_enter Try.func23, Try.ntmps23
    go_wp2_with (first
      | (go_at_call 31; (with_reducible refine HA.out.mono ?_); rintro e w2 ⟨rfl, hb2⟩; have HB2 := hid hb2; clear hb2)
      | (go_at_call 24; (with_reducible refine (HS.out _ HB2.out).mono ?_); rintro e w3 ⟨rfl, fc3, hm3, hf3, ht3, hb3⟩; have HM3 := hid hm3; have HF3 := hid hf3; have HT3 := hid ht3; have HB3 := hid hb3; clear hm3 hf3 ht3 hb3))
    go_ret
    exact ⟨rfl, fc3, HM3.out, fun j hj => (HF3.out j hj).imp id (fun h => Nat.le_trans HB2.out.size h), Turn.after HB2.out HT3.out, (HB2.out.mono hbs.out).trans HB3.out⟩

def SL.finN (S : SL) : Bool := (List.range S.work.length).all (fun i => S.doneN i)
theorem LM.bnd (H : LM W base L S fc fw) : S.work.length ≤ 64 := by obtain ⟨_, _, _, _, _, _, _, _, _, h, _⟩ := H; exact h.n1
set_option maxRecDepth 100000 in
set_option maxHeartbeats 2000000 in
theorem fin_any (H : LM W base L S fc fw) : Calls Try.prog 12 #[mi L] W fun e w' => e = .returned (.bool S.finN) ∧ Below W.heap.size W w' := by
  have hb64 := H.bnd
  have HW := hid (lworkers_any H)
  have HD := hid (fun w' (hb : Below W.heap.size W w') (n : Int) => ldone_any (H.below hb) n)
  have k1 := m_workers
  have k2 := m_done
  unfold mi
  clear H
  go_enter Try.func12, Try.ntmps12
  go_wp2_with (go_at_call 25; (with_reducible refine HW.out.mono ?_); rintro e w' ⟨rfl, rfl⟩)
  go_loopw [8] (fun i wr => ∃ k : Nat, k ≤ S.work.length ∧ i = .int .i64 k ∧ (∀ j, j < k → S.doneN j = true) ∧ Below W.heap.size W wr) (fun i _ => S.work.length - (intOf i).toNat)
  case atStart => exact ⟨0, Nat.zero_le _, rfl, fun j hj => by omega, Below.refl _ _⟩
  case round =>
    obtain ⟨k, hk, rfl, hall, hb⟩ := hrel
    have HALL := hid hall
    have HB := hid hb
    clear hall hb
    by_cases hlt : k < S.work.length
    · have HDK := hid (HD.out wr HB.out k)
      cases hd : S.doneN k
      · rw [hd] at HDK
        have HN := hid hd
        clear hd
        go_wp2_with (go_at_call 26; (with_reducible refine HDK.out.mono ?_); rintro e w2 ⟨rfl, hb2⟩; have HB2 := hid hb2; clear hb2)
        go_ret
        refine ⟨ret_bool ?_, below_tr HB2.out HB.out (Nat.le_refl _)⟩
        symm
        unfold SL.finN
        rw [← Bool.not_eq_true, List.all_eq_true]
        intro h
        have := h k (List.mem_range.2 hlt)
        rw [HN.out] at this
        cases this
      · rw [hd] at HDK
        have HN := hid hd
        clear hd
        go_wp2_with (go_at_call 26; (with_reducible refine HDK.out.mono ?_); rintro e w2 ⟨rfl, hb2⟩; have HB2 := hid hb2; clear hb2)
        go_roundw
        case rel => exact ⟨k + 1, by omega, by go_num, fun j hj => by
          by_cases h : j = k
          · subst h; exact HN.out
          · exact HALL.out j (by omega), below_tr HB2.out HB.out (Nat.le_refl _)⟩
        case measure => simp [intOf]; omega
    · go_wp2
      go_ret
      refine ⟨ret_bool ?_, HB.out⟩
      symm
      unfold SL.finN
      rw [List.all_eq_true]
      intro x hx
      exact HALL.out x (by have := List.mem_range.1 hx; omega)
end Go.Proofs.Ythmockfeffikjaa
