/-
  begun: a value is put, and stolen.
-/
import Derived.Test.YtpgdpddmgljpmaaD15
namespace Go.Proofs.Ytpgdpddmgljpmaa
open Go.RowKit
variable {w w' : World}

theorem Good.stepN {S : Dq} (H : Good S) (hc : S.count ≤ 1000000) (n : Int) : Good (S.stepN n) ∧ (S.stepN n).hs.length = S.hs.length ∧ (S.stepN n).count ≤ S.count + 1 := by
  cases hd : S.doneN n with
  | true => rw [stepN_done hd]; exact ⟨H, rfl, by omega⟩
  | false =>
    obtain ⟨i, rfl, hi, h⟩ := doneN_false hd
    rw [stepN_not hd]
    have := H.step i hi h hc
    exact ⟨this.good, this.len, by rw [this.cnt]; omega⟩
def bst : Nat → Dq
  | 0 => newDq 4 [(1, 7)] [1]
  | k + 1 => (bst k).stepN (if k < 3 then 0 else 1)
theorem bst_good : ∀ k : Nat, k ≤ 100 → Good (bst k) ∧ (bst k).hs.length = 2 ∧ (bst k).count ≤ k := by
  intro k
  have h0 : Good (bst 0) := good_new (r := 4) (own := [(1, 7)]) (th := [1]) (by decide)
  induction k with
  | zero => exact fun _ => ⟨h0, rfl, by decide⟩
  | succ k ih =>
    intro hk
    obtain ⟨i1, i2, i3⟩ := ih (by omega)
    have := i1.stepN (by omega) (if k < 3 then 0 else 1)
    exact ⟨this.1, this.2.1.trans i2, by have := this.2.2; show (bst (k + 1)).count ≤ _; simp only [bst]; omega⟩
theorem bst_end : (bst 7).doneN 0 = true ∧ (bst 7).doneN 1 = true ∧ (bst 7).answers 1 = [(true, 7)] ∧ (bst 7).count = 7 := by decide +kernel
theorem new_begun {p1 p2 : Option Addr} (h1 : Row w p1 (opCells [(1, 7)])) (h2 : Row w p2 (ints [1])) (hp1 : p1 ≠ none) :
    Calls Try.prog 10 #[.int .i64 4, .slice p1 1 1, .slice p2 1 1] w (NewMach w (bst 0)) :=
  new_mach (r := 4) (own := [(1, 7)]) (th := [1]) (by decide) ⟨h1, h2, fun e => absurd e hp1, Nat.le_refl _, Nat.le_refl _⟩ (by decide) (by decide) (by intro n hn; simp at hn; omega)
theorem below_drewN' {W W' : World} (q : Nat) (h : Below (W.drewN q).heap.size (W.drewN q) W') : Below W.heap.size W W' := ⟨h.os, h.tape, h.output, h.size, h.block⟩
def BegP (w : World) (e : Ending) (w' : World) : Prop := e = .returned (.bool true) ∧ Below w.heap.size w w'
theorem bst_step {d : Nat} {fp : Nat → Prop} {w0 : World} (k : Nat) (hk : k < 7) (H : Mach w w0.heap.size d (bst k) fp) (hb : Below w0.heap.size w0 w) (n : Int) (hn : n = if k < 3 then 0 else 1) :
    Calls Try.prog 15 #[.pointer (some ⟨d, 0, none⟩), .int .i64 n] w fun e w' => e = .returned (.tuple #[]) ∧ (∃ fp', Mach w' w0.heap.size d (bst (k + 1)) fp') ∧ Below w0.heap.size w0 w' := by
  obtain ⟨h1, h2, h3⟩ := bst_good k (by omega)
  refine (mach_step H h1 (by omega) (by omega) n).mono ?_
  rintro e w' ⟨he, fp', k1, _, _, k4⟩
  exact ⟨he, ⟨fp', by subst hn; exact k1⟩, hb.trans k4⟩

theorem bst_workers {base d : Nat} {fp : Nat → Prop} (H : Mach w base d (bst 0) fp) : Calls Try.prog 13 #[.pointer (some ⟨d, 0, none⟩)] w fun e w' => e = .returned (.int .i64 2) ∧ w' = w := mach_workers H
def BegI (w0 : World) (w : World) (d : Nat) (k : Nat) (W : World) : Prop := (∃ fp, Mach W w0.heap.size d (bst k) fp) ∧ Below w0.heap.size w0 W ∧ Below w.heap.size w W
theorem BegI.step {w0 : World} {d k : Nat} (hw : Below w.heap.size w w0) (hk : k < 7) {W : World} (h : BegI w0 w d k W) (n : Int) (hn : n = if k < 3 then 0 else 1) :
    Calls Try.prog 15 #[.pointer (some ⟨d, 0, none⟩), .int .i64 n] W fun e W' => e = .returned (.tuple #[]) ∧ BegI w0 w d (k + 1) W' := by
  obtain ⟨⟨fp, hm⟩, hb, hb2⟩ := h
  refine (bst_step k hk hm hb n hn).mono ?_
  rintro e W' ⟨he, h1, h2⟩
  exact ⟨he, h1, h2, hw.trans (h2.mono hw.size)⟩
theorem BegI.done {w0 : World} {d : Nat} {W : World} (h : BegI w0 w d 7 W) (n : Int) (hn : n = 0 ∨ n = 1) :
    Calls Try.prog 16 #[.pointer (some ⟨d, 0, none⟩), .int .i64 n] W fun e W' => e = .returned (.bool true) ∧ ∃ q, W' = W.drewN q := by
  obtain ⟨⟨fp, hm⟩, _⟩ := h
  have := mach_done hm (by have := (bst_good 7 (by omega)).2.1; omega) n
  have e : (bst 7).doneN n = true := by rcases hn with rfl | rfl; exact bst_end.1; exact bst_end.2.1
  rwa [e] at this
theorem BegI.answers {w0 : World} {d : Nat} {W : World} (h : BegI w0 w d 7 W) :
    Calls Try.prog 14 #[.pointer (some ⟨d, 0, none⟩), .int .i64 1] W fun e W' => (∃ p c, e = .returned (.slice p 1 c) ∧ Row W' p (ansCells [(true, 7)])) ∧ Below W.heap.size W W' := by
  obtain ⟨⟨fp, hm⟩, _⟩ := h
  have := mach_answers hm (bst_good 7 (by omega)).1 (by have := (bst_good 7 (by omega)).2.1; omega) 1
  rw [bst_end.2.2.1] at this
  refine this.mono ?_
  rintro e W' ⟨v, he, ho, hb⟩
  obtain ⟨p, c, rfl, _, _, hr, _⟩ := own_row ho
  exact ⟨⟨p, c, he, hr⟩, hb⟩
theorem BegI.steps {w0 : World} {d : Nat} {W W2 : World} (h : BegI w0 w d 7 W) (hb : Below W.heap.size W W2) :
    Calls Try.prog 28 #[.pointer (some ⟨d, 0, none⟩)] W2 fun e W' => e = .returned (i64 7) ∧ W' = W2 := by
  obtain ⟨⟨fp, hm⟩, _⟩ := h
  have := mach_steps (hm.below hb)
  rwa [bst_end.2.2.2] at this
theorem eqA_beg {p q : Option Addr} {c d : Nat} (h1 : Row w p (ansCells [(true, 7)])) (h2 : Row w q (ansCells [(true, 7)])) :
    Calls Try.prog 25 #[.slice p 1 c, .slice q 1 d] w fun e w' => e = .returned (.bool true) ∧ Below w.heap.size w w' := eqA_any p q c d [(true, 7)] [(true, 7)] w h1 h2 (by decide) (by decide)

set_option maxHeartbeats 2000000 in
theorem begun_any : Calls Try.prog 8 #[] w (BegP w) := by
  have R1 := hid ((row_new w [.int .i64 1, .int .i64 7] 27).alloc (.cells #[.int .i64 1] 3))
  have R2 := hid (row_newAt (w.alloc (.cells #[.int .i64 1, .int .i64 7] 27)) [.int .i64 1] 3 (w.heap.size + 1) (by simp))
  have HNB := hid (new_begun R1.out R2.out (by simp))
  have HB0 : Hid (Below w.heap.size w ((w.alloc (.cells #[.int .i64 1, .int .i64 7] 27)).alloc (.cells #[.int .i64 1] 3))) := Below.allocS (Below.allocS (Below.refl _ w) _) _
  clear R1 R2
  go_enter Try.func8, Try.ntmps8
  go_wp2_with (first
    | (go_at_call 10; refine HNB.out.mono ?_; rintro e w1 ⟨d, fp, rfl, HM, hb1⟩; have HMM := hid HM; have HBB := hid (HB0.out.trans (hb1.mono (by simp; omega))); have HB1 := hid hb1; clear HM hb1 HNB)
    | (go_at_call 13; refine (bst_workers HMM.out).mono ?_; rintro e w2 ⟨rfl, hw2⟩; rw [hw2]; clear hw2))
  obtain ⟨w0, hw0⟩ : ∃ w0, w0 = ((w.alloc (.cells #[.int .i64 1, .int .i64 7] 27)).alloc (.cells #[.int .i64 1] 3)) := ⟨_, rfl⟩
  rw [← hw0] at HMM HB0 HB1
  have HI : Hid (BegI w0 w d 0 w1) := ⟨⟨fp, HMM.out⟩, HB1.out, HBB.out⟩
  clear HMM HBB HB1 hw0
  go_loopw [21] (fun i W => ∃ k : Nat, k ≤ 3 ∧ i = .int .i64 k ∧ BegI w0 w d k W) (fun i _ => 3 - (intOf i).toNat)
  case atStart => exact ⟨0, by omega, rfl, HI.out⟩
  case round =>
    obtain ⟨k, hk, rfl, HR⟩ := hrel
    have HRR := hid HR
    clear HR HI
    by_cases hlt : k < 3
    · have HST := hid (HRR.out.step HB0.out (by omega) 0 (by rw [if_pos hlt]))
      go_wp2_with (go_at_call 15; refine HST.out.mono ?_; rintro e w2 ⟨rfl, hx⟩; have HX := hid hx; clear hx)
      go_roundw
      case rel => exact ⟨k + 1, by omega, by go_num, HX.out⟩
      case measure => simp [intOf]; omega
    · obtain rfl : k = 3 := by omega
      clear hk hlt
      rw [show ((3 : Nat) : Int) = 3 from rfl]
      go_wp2
      obtain ⟨wo, rfl⟩ : ∃ wo : World, wo = wr := ⟨_, rfl⟩
      go_loopw [26] (fun i W => ∃ k : Nat, k ≤ 4 ∧ i = .int .i64 k ∧ BegI w0 w d (3 + k) W) (fun i _ => 4 - (intOf i).toNat)
      case atStart => exact ⟨0, by omega, rfl, HRR.out⟩
      case round =>
        obtain ⟨k, hk, rfl, HR⟩ := hrel
        clear HRR
        have HRR := hid HR
        clear HR
        by_cases hlt : k < 4
        · have HST := hid (HRR.out.step HB0.out (by omega) 1 (by rw [if_neg (by omega)]))
          go_wp2_with (go_at_call 15; refine HST.out.mono ?_; rintro e w2 ⟨rfl, hx⟩; have HX := hid hx; clear hx)
          go_roundw
          case rel => exact ⟨k + 1, by omega, by go_num, HX.out⟩
          case measure => simp [intOf]; omega
        · obtain rfl : k = 4 := by omega
          clear hk hlt
          have HBL := hid HRR.out.2.2
          have D0 := hid (HRR.out.done 0 (.inl rfl))
          have D1 := hid (fun q => (show BegI w0 w d 7 (wr.drewN q) from by obtain ⟨⟨fp, h1⟩, h2, h3⟩ := HRR.out; exact ⟨⟨fp, h1.drewN q⟩, below_drewN h2 q, below_drewN h3 q⟩).done 1 (.inr rfl))
          have HA := hid (fun q => (show BegI w0 w d 7 (wr.drewN q) from by obtain ⟨⟨fp, h1⟩, h2, h3⟩ := HRR.out; exact ⟨⟨fp, h1.drewN q⟩, below_drewN h2 q, below_drewN h3 q⟩))
          rw [show ((4 : Nat) : Int) = 4 from rfl]
          go_wp2_with (first
            | (go_at_call 16; ((with_reducible refine D0.out.mono ?_); rintro e w2 ⟨rfl, q1, hw2⟩; rw [hw2]; clear hw2))
            | (go_at_call 16; ((with_reducible refine (D1.out _).mono ?_); rintro e w2 ⟨rfl, q2, hw2⟩; rw [hw2]; clear hw2))
            | (go_at_call 14; refine (HA.out _).answers.mono ?_; rintro e w2 ⟨⟨p, c, rfl, hrow⟩, hb2⟩; have HROW := hid hrow; have HB2 := hid hb2; clear hrow hb2)
            | (go_at_call 25; refine (eqA_beg (HROW.out.alloc _) (row_new _ [.bool true, .int .i64 7] _)).mono ?_; rintro e w3 ⟨rfl, hb3⟩; have HB3 := hid hb3; clear hb3)
            | (go_at_call 28; refine ((HA.out _).steps (W2 := w3) ((Below.allocS HB2.out _).trans (HB3.out.mono (by have := HB2.out.size; simp at this ⊢; omega)))).mono ?_; rintro e w2 ⟨rfl, hw2⟩; rw [hw2]; clear hw2))
          go_ret
          refine ⟨rfl, HBL.out.trans ?_⟩
          exact (below_drewN' _ ((Below.allocS HB2.out _).trans (HB3.out.mono (by have := HB2.out.size; simp at this ⊢; omega)))).mono (by exact HBL.out.size)
end Go.Proofs.Ytpgdpddmgljpmaa
