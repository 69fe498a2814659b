/-
  One worker's view of the document's deque; place, Workers, Steps, Done, Answers.
-/
import Derived.Test.YtpgdpddmgljpmaaR2
namespace Go.Proofs.Ytpgdpddmgljpmaa
open Go.RowKit
variable {W W' : World} {c : RC} {av : Nat → Value} {R : Dq} {i : Nat} {x : Hd} {s : SS}

/-- The deque where worker i's view is s. -/
structure RV (W : World) (c : RC) (av : Nat → Value) (R : Dq) (i : Nat) (x : Hd) (s : SS) : Prop where
  is : RefIs W c av (R.upd i x s)
  at_ : i < R.hs.length
theorem upd_hs (R : Dq) (i : Nat) (x : Hd) (s : SS) : (R.upd i x s).hs = R.hs.set i ⟨x.ops, s.said, s.at_, s.t, s.b, s.v, s.won⟩ := rfl
theorem upd_len (R : Dq) (i : Nat) (x : Hd) (s : SS) : (R.upd i x s).hs.length = R.hs.length := by rw [upd_hs]; simp
theorem upd_get (R : Dq) (i : Nat) (x : Hd) (s : SS) (h : i < R.hs.length) : (R.upd i x s).hs[i]'(by rw [upd_len]; exact h) = ⟨x.ops, s.said, s.at_, s.t, s.b, s.v, s.won⟩ := by simp [upd_hs]
theorem RV.hset (H : RV W c av R i x s) (j : Nat) (hj : j < 5) (v : Value) (s' : SS) (h1 : s'.top = s.top) (h2 : s'.bottom = s.bottom) (h3 : s'.count = s.count) (h4 : s'.pl = s.pl) (h5 : s'.said = s.said)
    (hc : hcells ⟨x.ops, s'.said, s'.at_, s'.t, s'.b, s'.v, s'.won⟩ = (hcells ⟨x.ops, s.said, s.at_, s.t, s.b, s.v, s.won⟩).set j v) : RV (W.setCell ⟨c.HB, i * 5 + j, none⟩ v) c av R i x s' := by
  have h := H.is.setH i (by rw [upd_len]; exact H.at_) j hj v ⟨x.ops, s'.said, s'.at_, s'.t, s'.b, s'.v, s'.won⟩ (by rw [upd_get _ _ _ _ H.at_]; exact hc) (by rw [upd_get _ _ _ _ H.at_]) (by rw [upd_get _ _ _ _ H.at_]; exact h5)
  refine ⟨?_, H.at_⟩
  have e : ({ R.upd i x s with hs := (R.upd i x s).hs.set i ⟨x.ops, s'.said, s'.at_, s'.t, s'.b, s'.v, s'.won⟩ } : Dq) = R.upd i x s' := by
    obtain ⟨t', b', ct', pl', a', tt', bb', v', w', sd'⟩ := s'
    dsimp only at h1 h2 h3 h4
    subst h1 h2 h3 h4
    unfold Dq.upd
    simp
  rw [← e]; exact h
theorem RV.setAt (H : RV W c av R i x s) (n : Int) : RV (W.setCell ⟨c.HB, i * 5, none⟩ (i64 n)) c av R i x { s with at_ := n } := H.hset 0 (by decide) _ _ rfl rfl rfl rfl rfl rfl
theorem RV.setT (H : RV W c av R i x s) (n : Int) : RV (W.setCell ⟨c.HB, i * 5 + 1, none⟩ (i64 n)) c av R i x { s with t := n } := H.hset 1 (by decide) _ _ rfl rfl rfl rfl rfl rfl
theorem RV.setB (H : RV W c av R i x s) (n : Int) : RV (W.setCell ⟨c.HB, i * 5 + 2, none⟩ (i64 n)) c av R i x { s with b := n } := H.hset 2 (by decide) _ _ rfl rfl rfl rfl rfl rfl
theorem RV.setWon (H : RV W c av R i x s) (n : Bool) : RV (W.setCell ⟨c.HB, i * 5 + 3, none⟩ (.bool n)) c av R i x { s with won := n } := H.hset 3 (by decide) _ _ rfl rfl rfl rfl rfl rfl
theorem RV.setV (H : RV W c av R i x s) (n : Int) : RV (W.setCell ⟨c.HB, i * 5 + 4, none⟩ (i64 n)) c av R i x { s with v := n } := H.hset 4 (by decide) _ _ rfl rfl rfl rfl rfl rfl
theorem RV.setTop (H : RV W c av R i x s) (n : Int) : RV (W.setCell ⟨c.r, 1, none⟩ (i64 n)) c av R i x { s with top := n } := ⟨H.is.setTop n, H.at_⟩
theorem RV.setBottom (H : RV W c av R i x s) (n : Int) : RV (W.setCell ⟨c.r, 2, none⟩ (i64 n)) c av R i x { s with bottom := n } := ⟨H.is.setBottom n, H.at_⟩
theorem RV.setCount (H : RV W c av R i x s) (n : Int) : RV (W.setCell ⟨c.r, 7, none⟩ (i64 n)) c av R i x { s with count := n } := ⟨H.is.setCount n, H.at_⟩
theorem RV.setPl (H : RV W c av R i x s) (k : Nat) (n : Int) : RV (W.setCell ⟨c.Q, k, none⟩ (i64 n)) c av R i x { s with pl := s.pl.set k n } := ⟨H.is.setPl k n, H.at_⟩
theorem RV.drewN (H : RV W c av R i x s) (q : Nat) : RV (W.drewN q) c av R i x s := ⟨H.is.drewN q, H.at_⟩
theorem RV.lt (H : RV W c av R i x s) : c.r < W.heap.size ∧ c.HB < W.heap.size ∧ c.Q < W.heap.size ∧ c.AB < W.heap.size := ⟨(Array.getElem?_eq_some_iff.1 H.is.rr).1, (Array.getElem?_eq_some_iff.1 H.is.hh).1, (Array.getElem?_eq_some_iff.1 H.is.qq).1, (Array.getElem?_eq_some_iff.1 H.is.aa).1⟩
theorem RV.ne (H : RV W c av R i x s) : c.r ≠ c.HB ∧ c.HB ≠ c.r ∧ c.r ≠ c.Q ∧ c.Q ≠ c.r ∧ c.HB ≠ c.Q ∧ c.Q ≠ c.HB := by
  have a := typ_ne H.is.rr H.is.hh (by decide); have b := typ_ne H.is.rr H.is.qq (by decide); have d := typ_ne H.is.hh H.is.qq (by decide)
  exact ⟨a, a.symm, b, b.symm, d, d.symm⟩
/-- What its cells read. -/
structure RCells (W : World) (c : RC) (n i : Nat) (s : SS) : Prop where
  r0 : W.cell? ⟨c.r, 0, none⟩ = some (.int .i64 s.pl.length)
  r1 : W.cell? ⟨c.r, 1, none⟩ = some (.int .i64 s.top)
  r2 : W.cell? ⟨c.r, 2, none⟩ = some (.int .i64 s.bottom)
  r3 : W.cell? ⟨c.r, 3, none⟩ = some (.slice (some ⟨c.Q, 0, none⟩) s.pl.length c.qc)
  r4 : W.cell? ⟨c.r, 4, none⟩ = some (.slice c.op n c.oc)
  r5 : W.cell? ⟨c.r, 5, none⟩ = some (.slice (some ⟨c.HB, 0, none⟩) n n)
  r6 : W.cell? ⟨c.r, 6, none⟩ = some (.slice (some ⟨c.AB, 0, none⟩) n n)
  r7 : W.cell? ⟨c.r, 7, none⟩ = some (.int .i64 s.count)
  h0 : W.cell? ⟨c.HB, i * 5, none⟩ = some (.int .i64 s.at_)
  h1 : W.cell? ⟨c.HB, i * 5 + 1, none⟩ = some (.int .i64 s.t)
  h2 : W.cell? ⟨c.HB, i * 5 + 2, none⟩ = some (.int .i64 s.b)
  h3 : W.cell? ⟨c.HB, i * 5 + 3, none⟩ = some (.bool s.won)
  h4 : W.cell? ⟨c.HB, i * 5 + 4, none⟩ = some (.int .i64 s.v)
  fr : ∀ k, W.frozen? ⟨c.r, k, none⟩ = false
  fh : ∀ k, W.frozen? ⟨c.HB, k, none⟩ = false
  fq : ∀ k, W.frozen? ⟨c.Q, k, none⟩ = false
theorem RV.cells (H : RV W c av R i x s) : RCells W c R.hs.length i s := by
  have hl := upd_len R i x s
  have hh := H.is.hh
  have hr := H.is.rr
  rw [hl] at hr
  have key : ∀ j, j < 5 → W.cell? ⟨c.HB, i * 5 + j, none⟩ = (hcells ⟨x.ops, s.said, s.at_, s.t, s.b, s.v, s.won⟩)[j]? := fun j hj => by
    rw [cell_of_row W c.HB (i * 5 + j) _ _ _ hh]
    have := flat_at hcells 5 hcells_len (R.upd i x s).hs i (by rw [hl]; exact H.at_) j hj
    rw [upd_get _ _ _ _ H.at_] at this
    simpa using this
  exact ⟨cell_of_row W c.r 0 _ _ _ hr, cell_of_row W c.r 1 _ _ _ hr, cell_of_row W c.r 2 _ _ _ hr, cell_of_row W c.r 3 _ _ _ hr, cell_of_row W c.r 4 _ _ _ hr, cell_of_row W c.r 5 _ _ _ hr, cell_of_row W c.r 6 _ _ _ hr, cell_of_row W c.r 7 _ _ _ hr,
    key 0 (by decide), key 1 (by decide), key 2 (by decide), key 3 (by decide), key 4 (by decide), fun k => frozen_of_row W c.r k _ _ hr, fun k => frozen_of_row W c.HB k _ _ hh, fun k => frozen_of_row W c.Q k _ _ H.is.qq⟩
theorem RV.of (H : RefIs W c av R) (hx : R.hs[i]? = some x) : RV W c av R i x (R.ss x) := by
  obtain ⟨hi, rfl⟩ := List.getElem?_eq_some_iff.1 hx
  refine ⟨?_, hi⟩
  have e : R.upd i R.hs[i] (R.ss R.hs[i]) = R := by
    have : R.hs.set i R.hs[i] = R.hs := List.set_getElem_self hi
    show (⟨R.top, R.bottom, R.count, R.pl, R.hs.set i R.hs[i]⟩ : Dq) = R
    rw [this]
  rw [e]; exact H

set_option maxHeartbeats 1000000 in
theorem place_ref (m n : Nat) (k : Int) (hm : 0 < m) (hm2 : m ≤ 256) (hk : -1 ≤ k) (hk2 : k ≤ 2000000000000) (h0 : W.cell? ⟨n, 0, none⟩ = some (.int .i64 m)) :
    Calls Try.prog 46 #[.pointer (some ⟨n, 0, none⟩), .int .i64 k] W fun e W' => e = .returned (.int .i64 (slotR m k)) ∧ ∃ q, W' = W.drewN q := by
  obtain ⟨t1, h1⟩ : ∃ t1, k.tmod (m : Int) = t1 := ⟨_, rfl⟩
  obtain ⟨t2, h2⟩ : ∃ t2, (t1 + m).tmod (m : Int) = t2 := ⟨_, rfl⟩
  have b1 : -(m : Int) < t1 := by rw [← h1]; exact Int.lt_tmod_of_pos _ (by omega)
  have b2 : t1 < m := by rw [← h1]; exact Int.tmod_lt_of_pos _ (by omega)
  have b3 : 0 ≤ t2 := by rw [← h2]; exact Int.tmod_nonneg _ (by omega)
  have b4 : t2 < m := by rw [← h2]; exact Int.tmod_lt_of_pos _ (by omega)
  have HS : Hid ((slotR m k : Int) = t2) := by show ((slotR m k : Nat) : Int) = t2; unfold slotR; rw [h1, h2]; omega
  have hw : IntKind.i64.wrap (t1 + m) = t1 + m := by rw [wrap_i64, wrap_small (by omega) (by omega)]
  have hn0 : ¬ (m : Int) = 0 := by omega
  have hn1 : ((m : Int) == 0) = false := by rw [beq_eq_false_iff_ne]; omega
  go_enter Try.func46, Try.ntmps46
  go_wp2
  go_quiet (fail)
  go_wp2
  go_ret
  exact ⟨ret_int HS.out.symm, _, rfl⟩
theorem workers_ref (H : RefIs W c av R) : Calls Try.prog 20 #[.pointer (some ⟨c.r, 0, none⟩)] W fun e W' => e = .returned (.int .i64 R.hs.length) ∧ W' = W := by
  have c4 := cell_of_row W c.r 4 _ _ _ H.rr
  simp only [List.getElem?_toArray, List.getElem?_cons_succ, List.getElem?_cons_zero] at c4
  go_enter Try.func20, Try.ntmps20
  go_wp2
  go_ret
  exact ⟨rfl, rfl⟩
theorem steps_ref (H : RefIs W c av R) : Calls Try.prog 29 #[.pointer (some ⟨c.r, 0, none⟩)] W fun e W' => e = .returned (i64 R.count) ∧ W' = W := by
  have c4 := cell_of_row W c.r 7 _ _ _ H.rr
  simp only [List.getElem?_toArray, List.getElem?_cons_succ, List.getElem?_cons_zero] at c4
  go_enter Try.func29, Try.ntmps29
  go_wp2
  go_ret
  exact ⟨rfl, rfl⟩
/-- The cells of a worker's rows. -/
theorem RefIs.row (H : RefIs W c av R) (k : Nat) (hk : k < R.hs.length) : (∃ b o m wc, c.op = some ⟨b, o, none⟩ ∧ b < W.heap.size ∧ W.cell? ⟨b, o + k, none⟩ = some (c.ov k) ∧ c.ov k = .slice m R.hs[k].ops.length wc) ∧ W.cell? ⟨c.AB, k, none⟩ = some (av k) ∧ (∃ m ac, av k = .slice m R.hs[k].said.length ac) ∧ c.AB < W.heap.size := by
  obtain ⟨op, oc, e, _, _, hr, _, _⟩ := own_row H.oo
  cases e
  obtain ⟨b, o, hb, hlt, hcell⟩ := hr.at (by simp; omega)
  have h1 := hcell k (by simpa using hk)
  obtain ⟨m, wc, h2, _, _⟩ := (H.ow k hk).ex
  obtain ⟨m2, ac, h3, _⟩ := own_row (H.an k hk)
  refine ⟨⟨b, o, m, wc, hb, hlt, by simpa using h1, h2⟩, ?_, ⟨m2, ac, h3⟩, (Array.getElem?_eq_some_iff.1 H.aa).1⟩
  rw [cell_of_row W c.AB k _ _ _ H.aa]
  simp [hk]
set_option maxHeartbeats 1000000 in
theorem done_ref (H : RefIs W c av R) (n : Int) (hlen : R.hs.length ≤ 64) :
    Calls Try.prog 23 #[.pointer (some ⟨c.r, 0, none⟩), .int .i64 n] W fun e W' => e = .returned (.bool (R.doneN n)) ∧ ∃ q, W' = W.drewN q := by
  have c4 := cell_of_row W c.r 4 _ _ _ H.rr
  have c6 := cell_of_row W c.r 6 _ _ _ H.rr
  simp only [List.getElem?_toArray, List.getElem?_cons_succ, List.getElem?_cons_zero] at c4 c6
  by_cases h0 : n < 0
  · have HD : Hid (R.doneN n = true) := if_neg (by omega)
    have g1 : decide (n < 0) = true := by simpa using h0
    go_enter Try.func23, Try.ntmps23
    go_wp2
    go_quiet (fail)
    go_wp2
    go_ret
    exact ⟨ret_bool (by rw [HD.out]), _, rfl⟩
  · have g1 : decide (n < 0) = false := by simpa using h0
    by_cases hl : (R.hs.length : Int) ≤ n
    · have HD : Hid (R.doneN n = true) := if_neg (by omega)
      have g2 : decide ((R.hs.length : Int) ≤ n) = true := by simpa using hl
      go_enter Try.func23, Try.ntmps23
      go_wp2
      go_quiet (fail)
      go_wp2
      go_ret
      exact ⟨ret_bool (by rw [HD.out]), _, rfl⟩
    · obtain ⟨k, rfl⟩ : ∃ k : Nat, n = k := ⟨n.toNat, by omega⟩
      have hk : k < R.hs.length := by omega
      have g2 : decide ((R.hs.length : Int) ≤ k) = false := by simpa using hl
      have g3 : decide (R.hs.length ≤ k) = false := by simp; omega
      obtain ⟨⟨b, o, m, wc, hop, _, ho1, ho2⟩, ha1, ⟨m2, ac, ha2⟩, _⟩ := H.row k hk
      rw [hop] at c4
      rw [ho2] at ho1
      rw [ha2] at ha1
      have HD : Hid (R.doneN k = ((R.hs[k].said.length : Int) == R.hs[k].ops.length)) := by
        show R.doneN k = _
        unfold Dq.doneN
        rw [if_pos (by omega), Int.toNat_natCast, List.getElem?_eq_getElem hk]
        dsimp only
        unfold Hd.done
        rw [Bool.eq_iff_iff]; simp; omega
      have hkI : (k : Int) < R.hs.length := by omega
      clear hop ho2 ha2 H hl h0
      generalize R.hs[k] = x at *
      go_enter Try.func23, Try.ntmps23
      go_wp2
      go_quiet (fail)
      go_wp2
      go_ret
      exact ⟨ret_bool (by rw [HD.out]), _, rfl⟩
def AnsRef (W : World) (R : Dq) (n : Int) (e : Ending) (W' : World) : Prop := (∃ p ac, e = .returned (.slice p (R.answers n).length ac) ∧ Row W p (ansCells (R.answers n))) ∧ W' = W
theorem AnsRef.mk' {n : Int} {l : List (Bool × Int)} {p : Option Addr} {ac : Nat} {e : Ending} (h : R.answers n = l) (he : e = .returned (.slice p l.length ac)) (hr : Row W p (ansCells l)) : AnsRef W R n e W := ⟨⟨p, ac, by rw [h]; exact he, by rw [h]; exact hr⟩, rfl⟩
set_option maxHeartbeats 1000000 in
theorem answers_ref (H : RefIs W c av R) (n : Int) (hlen : R.hs.length ≤ 64) :
    Calls Try.prog 26 #[.pointer (some ⟨c.r, 0, none⟩), .int .i64 n] W (AnsRef W R n) := by
  have c6 := cell_of_row W c.r 6 _ _ _ H.rr
  simp only [List.getElem?_toArray, List.getElem?_cons_succ, List.getElem?_cons_zero] at c6
  by_cases hk : 0 ≤ n ∧ n < R.hs.length
  · obtain ⟨k, rfl⟩ : ∃ k : Nat, n = k := ⟨n.toNat, by omega⟩
    have hk2 : k < R.hs.length := by omega
    have HD : Hid (R.answers k = R.hs[k].said) := by simp [Hid, Dq.answers, hk2]
    obtain ⟨_, ha1, _, _⟩ := H.row k hk2
    obtain ⟨m2, ac, ha2, _, _, hr, _, _⟩ := own_row (H.an k hk2)
    rw [ha2] at ha1
    have g1 : decide ((k : Int) < 0) = false := by simp
    have g2 : decide (R.hs.length ≤ k) = false := by simp; omega
    have HR := hid hr
    clear hk ha2 H hr
    generalize R.hs[k] = x at *
    go_enter Try.func26, Try.ntmps26
    go_wp2
    go_ret
    exact AnsRef.mk' HD.out rfl HR.out
  · have HD : Hid (R.answers n = []) := if_neg hk
    by_cases h0 : n < 0
    · have g1 : decide (n < 0) = true := by simpa using h0
      go_enter Try.func26, Try.ntmps26
      go_wp2
      go_ret
      exact AnsRef.mk' (p := none) (ac := 0) HD.out rfl (Row.nil _ _)
    · have g1 : decide (n < 0) = false := by simpa using h0
      have g2 : decide ((R.hs.length : Int) ≤ n) = true := by simp; omega
      clear hk
      go_enter Try.func26, Try.ntmps26
      go_wp2
      go_ret
      exact AnsRef.mk' (p := none) (ac := 0) HD.out rfl (Row.nil _ _)
end Go.Proofs.Ytpgdpddmgljpmaa
