/-
  The document's deque with the blocks that it uses; its step, and what it tells.
-/
import Derived.Test.YtpgdpddmgljpmaaR9
namespace Go.Proofs.Ytpgdpddmgljpmaa
open Go.RowKit
variable {W W' w : World} {c : RC} {av : Nat → Value} {R S : Dq} {rp : Nat → Prop}
variable {p1 p2 : Option Addr} {c1 c2 : Nat} {own : List (Int × Int)} {th : List Int}

structure RFoot (c : RC) (av : Nat → Value) (R : Dq) (rp : Nat → Prop) : Prop where
  r : rp c.r
  Q : rp c.Q
  HB : rp c.HB
  AB : rp c.AB
  o : ∀ g, (Value.slice c.op R.hs.length c.oc).ownBlock = some g → rp g
  a : ∀ i, i < R.hs.length → ∀ g, (av i).ownBlock = some g → rp g
  w : ∀ i (hi : i < R.hs.length), R.hs[i].ops ≠ [] → ∀ a m c', c.ov i = .slice (some a) m c' → a.block < c.n0 ∨ rp a.block
def RMach (W : World) (c : RC) (R : Dq) (rp : Nat → Prop) : Prop := ∃ av, RefIs W c av R ∧ RFoot c av R rp ∧ ∀ k, rp k → k < W.heap.size
theorem RefIs.kept (H : RefIs W c av R) (F : RFoot c av R rp) (hk : ∀ k, rp k → W'.heap[k]? = W.heap[k]?) (hlow : ∀ k, k < c.n0 → W'.heap[k]? = W.heap[k]?) (hs : W.heap.size ≤ W'.heap.size) : RefIs W' c av R :=
  ⟨(hk _ F.r).trans H.rr, (hk _ F.Q).trans H.qq, own_blk H.oo (fun g hg => hk g (F.o g hg)), (hk _ F.HB).trans H.hh, (hk _ F.AB).trans H.aa, fun i h => own_blk (H.an i h) (fun g hg => hk g (F.a i h g hg)),
    fun i h => (H.ow i h).blk (fun hne a m c' e => (F.w i h hne a m c' e).elim (hlow _) (hk _)), H.ap, Nat.le_trans H.bs hs, H.br, H.bq, H.bh, H.ba, H.nb⟩
theorem RMach.kept (H : RMach W c R rp) (hk : ∀ k, rp k → W'.heap[k]? = W.heap[k]?) (hlow : ∀ k, k < c.n0 → W'.heap[k]? = W.heap[k]?) (hs : W.heap.size ≤ W'.heap.size) : RMach W' c R rp := by
  obtain ⟨av, h1, h2, h3⟩ := H
  exact ⟨av, h1.kept h2 hk hlow hs, h2, fun k hk => Nat.lt_of_lt_of_le (h3 k hk) hs⟩
theorem RMach.n0 (H : RMach W c R rp) : c.n0 ≤ c.base ∧ c.base ≤ W.heap.size := by
  obtain ⟨av, h1, _⟩ := H; exact ⟨h1.nb, h1.bs⟩
theorem RMach.below (H : RMach W c R rp) (hb : Below W.heap.size W W') : RMach W' c R rp := by
  have hn := H.n0
  have H' := H
  obtain ⟨av, h1, h2, h3⟩ := H'
  exact H.kept (fun k hk => hb.block k (h3 k hk)) (fun k hk => hb.block k (by omega)) hb.size
theorem RefIs.foot (H : RefIs W c av R) : RFoot c av R (fun k => c.base ≤ k ∧ k < W.heap.size) :=
  have lt : ∀ {b : Nat} {o : Obj}, W.heap[b]? = some o → b < W.heap.size := fun h => (Array.getElem?_eq_some_iff.1 h).1
  ⟨⟨H.br, lt H.rr⟩, ⟨H.bq, lt H.qq⟩, ⟨H.bh, lt H.hh⟩, ⟨H.ba, lt H.aa⟩, fun g hg => ⟨own_ge H.oo g hg, own_lt H.oo g hg⟩, fun i h g hg => ⟨own_ge (H.an i h) g hg, own_lt (H.an i h) g hg⟩, fun i h hne a m c' e => by
    obtain ⟨p, c2, e', _, ht⟩ := (H.ow i h).ex
    rw [e] at e'; cases e'
    rcases ht a rfl hne with h2 | ⟨h3, cur, fz, hc⟩
    · exact .inl h2
    · exact .inr ⟨h3, lt hc⟩⟩

def Dq.rstepN (R : Dq) (n : Int) : Dq := if R.doneN n then R else R.rstep n.toNat
theorem Sim.done (H : Sim S R) (n : Int) : R.doneN n = S.doneN n := by
  unfold Dq.doneN
  rw [H.len]
  by_cases h : 0 ≤ n ∧ n < S.hs.length
  · rw [if_pos h, if_pos h]
    have h1 : n.toNat < S.hs.length := by omega
    have h2 : n.toNat < R.hs.length := by rw [H.len]; exact h1
    rw [List.getElem?_eq_getElem h1, List.getElem?_eq_getElem h2]
    have hr := H.hs n.toNat _ _ (List.getElem?_eq_getElem h1) (List.getElem?_eq_getElem h2)
    simp only [Hd.done, hr.ops, hr.said]
  · rw [if_neg h, if_neg h]
theorem Sim.answers (H : Sim S R) (n : Int) : R.answers n = S.answers n := by
  unfold Dq.answers
  rw [H.len]
  by_cases h : 0 ≤ n ∧ n < S.hs.length
  · rw [if_pos h, if_pos h]
    have h1 : n.toNat < S.hs.length := by omega
    have h2 : n.toNat < R.hs.length := by rw [H.len]; exact h1
    rw [List.getElem?_eq_getElem h1, List.getElem?_eq_getElem h2]
    exact (H.hs n.toNat _ _ (List.getElem?_eq_getElem h1) (List.getElem?_eq_getElem h2)).said
  · rw [if_neg h, if_neg h]
theorem Sim.left (H : Sim S R) : R.left = S.left := by unfold Dq.left; rw [H.pl, H.top, H.bottom]
theorem Sim.stepN (H : Sim S R) (hg : Good S) (hc : S.count ≤ 1000000) (n : Int) : Sim (S.stepN n) (R.rstepN n) := by
  unfold Dq.rstepN
  rw [H.done]
  cases hd : S.doneN n with
  | true => rw [stepN_done hd, if_pos rfl]; exact H
  | false =>
    obtain ⟨i, rfl, hi, hne⟩ := doneN_false hd
    rw [stepN_not hd, if_neg (by simp), Int.toNat_natCast]
    exact H.step hg i hi hne
theorem rmach_step (H : RMach W c R rp) (HS : Sim S R) (hg : Good S) (hlen : S.hs.length ≤ 64) (hc : S.count ≤ 1000000) (n : Int) :
    Calls Try.prog 22 #[.pointer (some ⟨c.r, 0, none⟩), .int .i64 n] W fun e W' => e = .returned (.tuple #[]) ∧ ∃ rp', RMach W' c (R.rstepN n) rp' ∧ (∀ k, rp' k → rp k ∨ W.heap.size ≤ k) ∧ Turn rp W W' ∧ Below c.base W W' := by
  obtain ⟨av, h1, h2, h3⟩ := H
  have hlen2 : R.hs.length ≤ 64 := by rw [HS.len]; exact hlen
  cases hd : R.doneN n with
  | true =>
    have hdn := hid (done_ref h1 n hlen2)
    rw [hd] at hdn
    have HE : Hid (R.rstepN n = R) := if_pos hd
    have HH := hid h1
    have H2 := hid h2
    have H3 := hid h3
    clear hd h1 h2 h3
    go_enter Try.func22, Try.ntmps22
    go_wp2_with (go_at_call 23; refine hdn.out.mono ?_; rintro e w2 ⟨rfl, q, rfl⟩)
    refine bodyPost_ret (results_none rfl _ _ _) rfl ?_
    exact ⟨rfl, rp, by rw [HE.out]; exact ⟨av, HH.out.drewN q, H2.out, H3.out⟩, fun _ h => .inl h, (Turn.refl rp W).drewN q, below_drewN (Below.refl _ _) q⟩
  | false =>
    obtain ⟨i, rfl, hi, hne⟩ := doneN_false hd
    have hi2 : i < S.hs.length := by rw [← HS.len]; exact hi
    have hx : S.hs[i]? = some S.hs[i] := List.getElem?_eq_getElem hi2
    have hy : R.hs[i]? = some R.hs[i] := List.getElem?_eq_getElem hi
    have hr := HS.hs i _ _ hx hy
    obtain ⟨o, ho⟩ := hg.ex hc i hi2 (by rw [← hr.said, ← hr.ops]; exact hne)
    have ho2 : R.hs[i].ops[R.hs[i].said.length]? = some o := by rw [hr.ops, hr.said]; exact ho
    have hok := ref_ok HS hg hc i _ _ o hx hy ho
    have hat := at_in hg i hi2
    obtain ⟨L, p, x0, th, HI⟩ := hg
    have hct : 0 ≤ R.count := by rw [HS.count]; have := HI.c0; have := HI.tL; have := HI.t0; omega
    refine (rstep_do h1 hlen2 i _ o hy ho2 (by rw [hr.at_]; omega) (by rw [HS.count] at *; omega) hok).mono ?_
    rintro e W' hp
    obtain ⟨he, av', k1, k2, k3⟩ := RPost.ret hp
    have e2 : R.rstepN i = R.upd i R.hs[i] (rstepH R R.hs[i] o) := by
      unfold Dq.rstepN
      rw [hd, if_neg (by simp), Int.toNat_natCast]
      simp [Dq.rstep, hy, ho2]
    have hl := upd_len R i R.hs[i] (rstepH R R.hs[i] o)
    rw [e2]
    have hsz := k2.size
    have hop : ∀ j (hj : j < R.hs.length), ((R.upd i R.hs[i] (rstepH R R.hs[i] o)).hs[j]'(by rw [hl]; exact hj)).ops = R.hs[j].ops := fun j hj => by
      simp only [upd_hs, List.getElem_set]
      split
      · subst_vars; rfl
      · rfl
    refine ⟨he, fun k => (rp k ∨ W.heap.size ≤ k) ∧ k < W'.heap.size, ⟨av', k1.is, ⟨?_, ?_, ?_, ?_, ?_, ?_, ?_⟩, fun k hk => hk.2⟩, fun k hk => hk.1, ⟨k2.os, k2.tape, k2.output, k2.size, fun k hk hn => k2.block k hk (fun hm => hn ?_)⟩, ⟨k2.os, k2.tape, k2.output, k2.size, fun k hk => k2.block k (by have := h1.bs; omega) (fun hm => ?_)⟩⟩
    · exact ⟨.inl h2.r, by have := h3 _ h2.r; omega⟩
    · exact ⟨.inl h2.Q, by have := h3 _ h2.Q; omega⟩
    · exact ⟨.inl h2.HB, by have := h3 _ h2.HB; omega⟩
    · exact ⟨.inl h2.AB, by have := h3 _ h2.AB; omega⟩
    · intro g hg'
      rw [hl] at hg'
      have := h2.o g hg'
      exact ⟨.inl this, by have := h3 _ this; omega⟩
    · intro j hj g hg'
      refine ⟨?_, own_lt (k1.is.an j hj) g hg'⟩
      rw [hl] at hj
      rcases k3 j g hg' with h | h
      · exact .inl (h2.a j hj g h)
      · exact .inr h
    · intro j hj hne2 a m c' e3
      rw [hl] at hj
      rw [hop j hj] at hne2
      rcases h2.w j hj hne2 a m c' e3 with h | h
      · exact .inl h
      · exact .inr ⟨.inl h, by have := h3 _ h; omega⟩
    · simp only [rB, List.mem_cons, List.not_mem_nil, or_false, Option.some.injEq] at hm
      rcases hm with rfl | rfl | rfl | rfl | h
      · exact h2.r
      · exact h2.HB
      · exact h2.Q
      · exact h2.AB
      · exact h2.a i hi k h.symm
    · simp only [rB, List.mem_cons, List.not_mem_nil, or_false, Option.some.injEq] at hm
      rcases hm with rfl | rfl | rfl | rfl | h
      · have := h1.br; omega
      · have := h1.bh; omega
      · have := h1.bq; omega
      · have := h1.ba; omega
      · have := own_ge (h1.an i hi) k h.symm; omega
theorem rmach_done (H : RMach W c R rp) (HS : Sim S R) (hlen : S.hs.length ≤ 64) (n : Int) : Calls Try.prog 23 #[.pointer (some ⟨c.r, 0, none⟩), .int .i64 n] W fun e W' => e = .returned (.bool (S.doneN n)) ∧ ∃ q, W' = W.drewN q := by
  obtain ⟨av, h1, _⟩ := H
  have := done_ref h1 n (by rw [HS.len]; exact hlen)
  rwa [HS.done] at this
theorem rmach_workers (H : RMach W c R rp) (HS : Sim S R) : Calls Try.prog 20 #[.pointer (some ⟨c.r, 0, none⟩)] W fun e W' => e = .returned (.int .i64 S.hs.length) ∧ W' = W := by
  obtain ⟨av, h1, _⟩ := H
  have := workers_ref h1
  rwa [HS.len] at this
theorem rmach_steps (H : RMach W c R rp) (HS : Sim S R) : Calls Try.prog 29 #[.pointer (some ⟨c.r, 0, none⟩)] W fun e W' => e = .returned (i64 S.count) ∧ W' = W := by
  obtain ⟨av, h1, _⟩ := H
  have := steps_ref h1
  rwa [HS.count] at this
theorem rmach_answers (H : RMach W c R rp) (HS : Sim S R) (hlen : S.hs.length ≤ 64) (n : Int) : Calls Try.prog 26 #[.pointer (some ⟨c.r, 0, none⟩), .int .i64 n] W (AnsRef W S n) := by
  obtain ⟨av, h1, _⟩ := H
  have := answers_ref h1 n (by rw [HS.len]; exact hlen)
  unfold AnsRef at this ⊢
  rwa [HS.answers] at this
theorem rmach_left (H : RMach W c R rp) (HS : Sim S R) (hg : Good S) (hc : S.count ≤ 1000000) : Calls Try.prog 27 #[.pointer (some ⟨c.r, 0, none⟩)] W fun e W' => ∃ v, e = .returned v ∧ W'.ownsRow W.heap.size 2 1 v S.left.length (S.left.map i64) ∧ Below W.heap.size W W' := by
  obtain ⟨av, h1, _⟩ := H
  obtain ⟨L, p, x0, th, hI⟩ := hg
  have hbl : L - 1 ≤ S.bottom ∧ S.bottom ≤ L := by
    rcases hI.own with ⟨_, h, _⟩ | ⟨_, _, ⟨_, _, h, _⟩ | ⟨_, h, h', _⟩⟩ <;> omega
  have a1 := hI.tL
  have a2 := hI.room
  have a3 := hI.c0
  have a4 := hI.r2
  have a5 := hI.r1
  have a6 := hI.t0
  have := left_ref h1 (by rw [HS.top]; exact a6) (by rw [HS.top, HS.bottom]; omega) (by rw [HS.top]; omega) (by rw [HS.pl]; exact a5) (by rw [HS.pl]; exact a4)
  rwa [HS.left] at this
/-- New, whatever it is given. -/
def RNewOk (n0 : Nat) (w : World) (S : Dq) (e : Ending) (w' : World) : Prop := ∃ (c : RC) (rp : Nat → Prop), e = .returned (.tuple #[.pointer (some ⟨c.r, 0, none⟩), .int .i64 0]) ∧ c.n0 = n0 ∧ c.base = w.heap.size ∧ RMach w' c S rp ∧ (∀ k, rp k → w.heap.size ≤ k) ∧ Below w.heap.size w w'
theorem rnew_any (r : Int) (HI : NewIn w p1 c1 own p2 c2 th) (hl : th.length ≤ maxLen) (hw : ∀ n ∈ th, -9223372036854775808 ≤ n ∧ n ≤ 9223372036854775807) (hol : own.length ≤ 140737488355328) (n0 : Nat) (hn0 : n0 ≤ w.heap.size) (hp1 : ∀ a, p1 = some a → own ≠ [] → a.block < n0) :
    Calls Try.prog 19 #[.int .i64 r, .slice p1 own.length c1, .slice p2 th.length c2] w (RNewPost n0 w r own th) := by
  by_cases h1 : r < 1 ∨ 256 < r
  · exact (rnew_room r h1 hl).mono fun e w' ⟨he, hb⟩ => RNewPost.bad (if_pos (h1.elim .inl (fun h => .inr (.inl h)))) (by decide) he hb
  · by_cases h2 : 63 < th.length
    · exact (rnew_many r (by omega) (by omega) h2 hl).mono fun e w' ⟨he, hb⟩ => RNewPost.bad (if_pos (.inr (.inr (.inl h2)))) (by decide) he hb
    · obtain ⟨n, rfl⟩ : ∃ n : Nat, r = n := ⟨r.toNat, by omega⟩
      exact rnew_walk n (by omega) (by omega) (by omega) HI hw hol n0 hn0 hp1
theorem rnew_ok {r : Int} (h : newE r own th = 0) (HI : NewIn w p1 c1 own p2 c2 th) (hl : th.length ≤ maxLen) (hw : ∀ n ∈ th, -9223372036854775808 ≤ n ∧ n ≤ 9223372036854775807) (hol : own.length ≤ 140737488355328) (n0 : Nat) (hn0 : n0 ≤ w.heap.size) (hp1 : ∀ a, p1 = some a → own ≠ [] → a.block < n0) :
    Calls Try.prog 19 #[.int .i64 r, .slice p1 own.length c1, .slice p2 th.length c2] w (RNewOk n0 w (newDq r.toNat own th)) := by
  refine (rnew_any r HI hl hw hol n0 hn0 hp1).mono ?_
  rintro e w' (⟨_, c, av, he, e1, e2, hR, hb⟩ | ⟨h2, _⟩)
  · refine ⟨c, _, he, e1, e2, ⟨av, hR, hR.foot, fun k hk => hk.2⟩, fun k hk => by rw [← e2]; exact hk.1, hb⟩
  · exact absurd h h2
theorem rnew_not {r : Int} (h : newE r own th ≠ 0) (HI : NewIn w p1 c1 own p2 c2 th) (hl : th.length ≤ maxLen) (hw : ∀ n ∈ th, -9223372036854775808 ≤ n ∧ n ≤ 9223372036854775807) (hol : own.length ≤ 140737488355328) (n0 : Nat) (hn0 : n0 ≤ w.heap.size) (hp1 : ∀ a, p1 = some a → own ≠ [] → a.block < n0) :
    Calls Try.prog 19 #[.int .i64 r, .slice p1 own.length c1, .slice p2 th.length c2] w (NoRef w (newE r own th)) := by
  refine (rnew_any r HI hl hw hol n0 hn0 hp1).mono ?_
  rintro e w' (⟨h2, _⟩ | ⟨_, h2⟩)
  · exact absurd h2 h
  · exact h2
end Go.Proofs.Ytpgdpddmgljpmaa
