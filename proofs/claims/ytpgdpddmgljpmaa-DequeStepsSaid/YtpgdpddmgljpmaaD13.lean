/-
  A deque with the blocks that it uses; one access keeps all others.
-/
import Derived.Test.YtpgdpddmgljpmaaD11
import Derived.Test.YtpgdpddmgljpmaaD12
namespace Go.Proofs.Ytpgdpddmgljpmaa
open Go.RowKit
variable {w w' : World} {base d P c : Nat} {hsv : Value} {hb : Nat → Nat} {sv wv : Nat → Value} {S : Dq} {fp : Nat → Prop}

/-- The blocks that a deque uses. -/
structure Foot (d P : Nat) (hsv : Value) (hb : Nat → Nat) (sv wv : Nat → Value) (hs : List Hd) (fp : Nat → Prop) : Prop where
  d : fp d
  P : fp P
  h : ∀ i, i < hs.length → fp (hb i)
  s : ∀ i, i < hs.length → ∀ g, (sv i).ownBlock = some g → fp g
  r : ∀ g, hsv.ownBlock = some g → fp g
  w : ∀ i (hi : i < hs.length), hs[i].ops ≠ [] → ∀ a m c, wv i = .slice (some a) m c → fp a.block
def Mach (w : World) (base d : Nat) (S : Dq) (fp : Nat → Prop) : Prop :=
  ∃ P c hsv hb sv wv, DqIs w base d P c hsv hb sv wv S ∧ Foot d P hsv hb sv wv S.hs fp ∧ ∀ k, fp k → k < w.heap.size
/-- All that is not in fp lies on. -/
structure Turn (fp : Nat → Prop) (w w' : World) : Prop where
  os : w'.os = w.os
  tape : w'.tape = w.tape
  output : w'.output = w.output
  size : w.heap.size ≤ w'.heap.size
  block : ∀ k, k < w.heap.size → ¬ fp k → w'.heap[k]? = w.heap[k]?
theorem Turn.refl (fp : Nat → Prop) (w : World) : Turn fp w w := ⟨rfl, rfl, rfl, Nat.le_refl _, fun _ _ _ => rfl⟩
theorem Turn.drewN (h : Turn fp w w') (q : Nat) : Turn fp w (w'.drewN q) := ⟨h.os, h.tape, h.output, h.size, h.block⟩
theorem Turn.of_below (h : Below w.heap.size w w') : Turn fp w w' := ⟨h.os, h.tape, h.output, h.size, fun k hk _ => h.block k hk⟩

theorem own_blk {e : TypeId} {size n : Nat} {v : Value} {xs : List Value} (h : w.ownsRow base e size v n xs) (hk : ∀ g, v.ownBlock = some g → w'.heap[g]? = w.heap[g]?) : w'.ownsRow base e size v n xs := by
  refine ⟨h.1, ?_⟩
  rcases h.2 with hn' | ⟨g, cap, cur, rfl, hge, hg, rest⟩
  · exact .inl hn'
  · exact .inr ⟨g, cap, cur, rfl, hge, (hk g rfl).trans hg, rest⟩
theorem WorkAt.block {v : Value} {ops : List (Int × Int)} (h : WorkAt w v ops) (hk : ops ≠ [] → ∀ a m c, v = .slice (some a) m c → w'.heap[a.block]? = w.heap[a.block]?) : WorkAt w' v ops := by
  obtain ⟨p, c, rfl, hr, ht⟩ := h.ex
  refine ⟨p, c, rfl, ?_, fun a ha hne => ?_⟩
  · intro hne
    obtain ⟨b, f, rfl, hcell⟩ := hr hne
    refine ⟨b, f, rfl, fun i hi => ?_⟩
    rw [← hcell i hi]
    exact World.cell?_of_block (a := ⟨b, f + i, none⟩) (hk (by rintro rfl; exact hne rfl) ⟨b, f, none⟩ _ _ rfl)
  · obtain ⟨cur, fz, hc⟩ := ht a ha hne
    subst ha
    exact ⟨cur, fz, (hk hne a _ _ rfl).trans hc⟩
theorem DqIs.kept (H : DqIs w base d P c hsv hb sv wv S) (F : Foot d P hsv hb sv wv S.hs fp) (hk : ∀ k, fp k → w'.heap[k]? = w.heap[k]?) (hs : w.heap.size ≤ w'.heap.size) : DqIs w' base d P c hsv hb sv wv S :=
  ⟨(hk d F.d).trans H.dd, (hk P F.P).trans H.pp, own_blk H.hown (fun g hg => hk g (F.r g hg)), fun i hi => (hk _ (F.h i hi)).trans (H.hand i hi),
    fun i hi => own_blk (H.own i hi) (fun g hg => hk g (F.s i hi g hg)), fun i hi => (H.work i hi).block (fun hne a m c e => hk _ (F.w i hi hne a m c e)), H.nd, H.apart, Nat.le_trans H.bs hs, H.bd, H.bP, H.bh⟩
/-- Behind anything that leaves its blocks the deque stands. -/
theorem Mach.kept (H : Mach w base d S fp) (hk : ∀ k, fp k → w'.heap[k]? = w.heap[k]?) (hs : w.heap.size ≤ w'.heap.size) : Mach w' base d S fp := by
  obtain ⟨P, c, hsv, hb, sv, wv, h1, h2, h3⟩ := H
  exact ⟨P, c, hsv, hb, sv, wv, h1.kept h2 hk hs, h2, fun k hk => Nat.lt_of_lt_of_le (h3 k hk) hs⟩
theorem Mach.below (H : Mach w base d S fp) (hb : Below w.heap.size w w') : Mach w' base d S fp := by
  have H' := H
  obtain ⟨P, c, hsv, hb', sv, wv, h1, h2, h3⟩ := H'
  exact H.kept (fun k hk => hb.block k (h3 k hk)) hb.size
theorem Mach.drewN (H : Mach w base d S fp) (q : Nat) : Mach (w.drewN q) base d S fp := H.kept (fun _ _ => rfl) (Nat.le_refl _)

/-! ### The plain machine -/
def Good (S : Dq) : Prop := ∃ L p x0 th, Inv S L p x0 th
/-- How many accesses a worker may have before it at most. -/
def rem (S : Dq) (n : Nat) : Int := match S.hs[n]? with | some x => 4 * ((x.ops.length : Int) - x.said.length) - x.at_ | none => 0

theorem doneN_false {n : Int} (h : S.doneN n = false) : ∃ i : Nat, n = i ∧ ∃ hi : i < S.hs.length, S.hs[i].said.length ≠ S.hs[i].ops.length := by
  unfold Dq.doneN at h
  by_cases hn : 0 ≤ n ∧ n < S.hs.length
  · rw [if_pos hn] at h
    obtain ⟨i, rfl⟩ : ∃ i : Nat, n = i := ⟨n.toNat, by omega⟩
    have hi : i < S.hs.length := by omega
    rw [Int.toNat_natCast, List.getElem?_eq_getElem hi] at h
    refine ⟨i, rfl, hi, ?_⟩
    simpa [Hd.done] using h
  · rw [if_neg hn] at h; cases h
/-- What an access of worker n has done to the plain deque. -/
structure Went (S : Dq) (i : Nat) (S' : Dq) : Prop where
  good : Good S'
  len : S'.hs.length = S.hs.length
  cnt : S'.count = S.count + 1
  room : S'.pl.length = S.pl.length
  ops : ∀ j : Nat, Option.map Hd.ops S'.hs[j]? = Option.map Hd.ops S.hs[j]?
  other : ∀ j : Nat, j ≠ i → S'.hs[j]? = S.hs[j]?
  rem : rem S' i < rem S i
theorem Good.ex (H : Good S) (hc : S.count ≤ 1000000) (i : Nat) (hi : i < S.hs.length) (h : S.hs[i].said.length ≠ S.hs[i].ops.length) : ∃ o, S.hs[i].ops[S.hs[i].said.length]? = some o := by
  obtain ⟨L, p, x0, th, H⟩ := H
  have := H.len S.hs[i] (List.getElem_mem hi)
  exact ⟨_, List.getElem?_eq_getElem (by omega)⟩
theorem Good.step (H : Good S) (i : Nat) (hi : i < S.hs.length) (h : S.hs[i].said.length ≠ S.hs[i].ops.length) (hc : S.count ≤ 1000000) : Went S i (S.step i) := by
  obtain ⟨o, ho⟩ := H.ex hc i hi h
  obtain ⟨L, p, x0, th, H⟩ := H
  have hx : S.hs[i]? = some S.hs[i] := List.getElem?_eq_getElem hi
  obtain ⟨L', p', x0', th', x', a, h1, h2, h3, h4, h5, h6, h7, _⟩ := (any_step H i _ hx ho).ex
  refine ⟨⟨L', p', x0', th', h1⟩, by rw [h2]; simp, h6, h5, ?_, ?_, ?_⟩
  · intro j
    rw [h2]
    by_cases hj : j = i
    · subst hj
      rw [List.getElem?_set_self hi, hx]; simp [h3]
    · rw [List.getElem?_set_ne (Ne.symm hj)]
  · intro j hj
    rw [h2, List.getElem?_set_ne (Ne.symm hj)]
  · unfold rem
    rw [h2, List.getElem?_set_self hi, hx]
    dsimp only
    rw [h3, h4, List.length_append]
    have hko := (any_ok H hc i _ hx ho).2
    rcases h7 with ⟨ha, h8, h9⟩ | ⟨ha, h8⟩
    · subst ha; simp; omega
    · obtain ⟨v, rfl⟩ := Option.isSome_iff_exists.1 ha
      simp; omega
theorem stepN_done {n : Int} (h : S.doneN n = true) : S.stepN n = S := by unfold Dq.stepN; rw [if_pos h]
theorem stepN_not {i : Nat} (h : S.doneN (i : Int) = false) : S.stepN i = S.step i := by unfold Dq.stepN; rw [h, if_neg (by simp), Int.toNat_natCast]
theorem Good.ok (H : Good S) (hc : S.count ≤ 1000000) (n : Int) : S.ok n := by
  intro hd hi
  obtain ⟨i, rfl, hi', h⟩ := doneN_false hd
  simp only [Int.toNat_natCast]
  obtain ⟨o, ho⟩ := H.ex hc i hi' h
  obtain ⟨L, p, x0, th, H⟩ := H
  have h2 := any_ok H hc i _ (List.getElem?_eq_getElem hi') ho
  exact ⟨o, ho, h2.1, by omega, by omega⟩
theorem Good.len (H : Good S) : 0 < S.hs.length := by obtain ⟨L, p, x0, th, H⟩ := H; rw [H.hs]; simp

/-- One access of the worker of any number. -/
theorem mach_step (H : Mach w base d S fp) (hg : Good S) (hlen : S.hs.length ≤ 64) (hc : S.count ≤ 1000000) (n : Int) :
    Calls Try.prog 15 #[.pointer (some ⟨d, 0, none⟩), .int .i64 n] w fun e w' => e = .returned (.tuple #[]) ∧ ∃ fp', Mach w' base d (S.stepN n) fp' ∧ (∀ k, fp' k → fp k ∨ w.heap.size ≤ k) ∧ Turn fp w w' ∧ Below base w w' := by
  obtain ⟨P, c, hsv, hb, sv, wv, h1, h2, h3⟩ := H
  refine (step_any h1 n hlen (hg.ok hc n)).mono ?_
  rintro e w' ⟨he, sv', k1, ⟨B, k2, k3⟩, k4, k5⟩
  have hlo : (S.stepN n).hs.length = S.hs.length ∧ ∀ j : Nat, Option.map Hd.ops (S.stepN n).hs[j]? = Option.map Hd.ops S.hs[j]? := by
    cases hd : S.doneN n with
    | true => rw [stepN_done hd]; exact ⟨rfl, fun _ => rfl⟩
    | false => obtain ⟨i, rfl, hi, h⟩ := doneN_false hd; rw [stepN_not hd]; exact ⟨(hg.step i hi h hc).len, (hg.step i hi h hc).ops⟩
  obtain ⟨hl, hop⟩ := hlo
  refine ⟨he, fun k => (fp k ∨ w.heap.size ≤ k) ∧ k < w'.heap.size, ⟨P, c, hsv, hb, sv', wv, k1, ?_, fun k hk => hk.2⟩, fun k hk => hk.1, ⟨k2.os, k2.tape, k2.output, k2.size, fun k hk hn => k2.block k hk (fun hm => hn ?_)⟩, k5⟩
  · have hs := k2.size
    refine ⟨⟨.inl h2.d, ?_⟩, ⟨.inl h2.P, ?_⟩, fun i hi => ⟨.inl (h2.h i (hl ▸ hi)), ?_⟩, fun i hi g hg => ⟨?_, ?_⟩, fun g hg => ⟨.inl (h2.r g hg), ?_⟩, fun i hi hne a m c e => ?_⟩
    · have := h3 _ h2.d; omega
    · have := h3 _ h2.P; omega
    · have := h3 _ (h2.h i (hl ▸ hi)); omega
    · rcases k4 i g hg with h | h
      · exact .inl (h2.s i (hl ▸ hi) g h)
      · exact .inr h
    · exact own_lt (k1.own i hi) g hg
    · have := h3 _ (h2.r g hg); omega
    · have e2 := hop i
      rw [List.getElem?_eq_getElem hi, List.getElem?_eq_getElem (hl ▸ hi)] at e2
      have e3 := h2.w i (hl ▸ hi) (by simp at e2; rw [← e2]; exact hne) a m c e
      exact ⟨.inl e3, by have := h3 _ e3; omega⟩
  · rcases k3 k hm with rfl | rfl | ⟨i, hi, rfl | h⟩
    · exact h2.d
    · exact h2.P
    · exact h2.h i hi
    · exact h2.s i hi k h
theorem mach_done (H : Mach w base d S fp) (hlen : S.hs.length ≤ 64) (n : Int) : Calls Try.prog 16 #[.pointer (some ⟨d, 0, none⟩), .int .i64 n] w fun e w' => e = .returned (.bool (S.doneN n)) ∧ ∃ q, w' = w.drewN q := by
  obtain ⟨P, c, hsv, hb, sv, wv, h1, _⟩ := H
  exact done_any h1 n hlen
theorem mach_workers (H : Mach w base d S fp) : Calls Try.prog 13 #[.pointer (some ⟨d, 0, none⟩)] w fun e w' => e = .returned (.int .i64 S.hs.length) ∧ w' = w := by
  obtain ⟨P, c, hsv, hb, sv, wv, h1, _⟩ := H
  exact workers_any h1
theorem mach_steps (H : Mach w base d S fp) : Calls Try.prog 28 #[.pointer (some ⟨d, 0, none⟩)] w fun e w' => e = .returned (i64 S.count) ∧ w' = w := by
  obtain ⟨P, c, hsv, hb, sv, wv, h1, _⟩ := H
  exact steps_any h1
theorem mach_answers (H : Mach w base d S fp) (hg : Good S) (hlen : S.hs.length ≤ 64) (n : Int) :
    Calls Try.prog 14 #[.pointer (some ⟨d, 0, none⟩), .int .i64 n] w fun e w' => ∃ v, e = .returned v ∧ w'.ownsRow w.heap.size 40 2 v (S.answers n).length (ansCells (S.answers n)) ∧ Below w.heap.size w w' := by
  obtain ⟨P, c, hsv, hb, sv, wv, h1, _⟩ := H
  obtain ⟨L, p, x0, th, hI⟩ := hg
  exact answers_any h1 n hlen (fun i hi => by have := hI.len _ (List.getElem_mem hi); have := hI.few _ (List.getElem_mem hi); omega)
theorem mach_left (H : Mach w base d S fp) (hg : Good S) (hc : S.count ≤ 1000000) :
    Calls Try.prog 18 #[.pointer (some ⟨d, 0, none⟩)] w fun e w' => ∃ v, e = .returned v ∧ w'.ownsRow w.heap.size 2 1 v S.left.length (S.left.map i64) ∧ Below w.heap.size w w' := by
  obtain ⟨P, c, hsv, hb, sv, wv, h1, _⟩ := H
  obtain ⟨L, p, x0, th, hI⟩ := hg
  have hbl : L - 1 ≤ S.bottom ∧ S.bottom ≤ L := by
    rcases hI.own with ⟨_, h, _⟩ | ⟨_, _, ⟨_, _, h, _⟩ | ⟨_, h, h', _⟩⟩ <;> omega
  have := hI.tL
  have := hI.room
  have := hI.c0
  have := hI.r2
  exact left_any h1 hI.t0 (by omega) (by omega) hI.r1 hI.r2

theorem DqIs.mach (H : DqIs w base d P c hsv hb sv wv S) : Mach w base d S (fun k => k < w.heap.size) :=
  ⟨P, c, hsv, hb, sv, wv, H, ⟨H.dd.lt, (Array.getElem?_eq_some_iff.1 H.pp).1, fun i hi => (H.hand i hi).lt, fun i hi g hg => own_lt (H.own i hi) g hg, fun g hg => own_lt H.hown g hg, fun i hi hne a m c e => by
    obtain ⟨p, c', e', _, ht⟩ := (H.work i hi).ex
    rw [e] at e'; cases e'
    obtain ⟨cur, fz, hc⟩ := ht a rfl hne
    exact (Array.getElem?_eq_some_iff.1 hc).1⟩, fun k hk => hk⟩
variable {p1 p2 : Option Addr} {c1 c2 : Nat} {own : List (Int × Int)} {th : List Int}
theorem newE_zero {r : Int} (h : newE r own th = 0) : 1 ≤ r ∧ r ≤ 256 ∧ th.length ≤ 63 ∧ (∀ n ∈ th, 0 ≤ n) ∧ own.length + th.sum ≤ 4096 ∧ ∀ o ∈ own, opOk o := by
  unfold newE at h
  by_cases h1 : r < 1 ∨ 256 < r ∨ 63 < th.length ∨ th.any (fun n => decide (n < 0)) = true
  · rw [if_pos h1] at h; cases h
  · rw [if_neg h1] at h
    by_cases h2 : 4096 < own.length + th.sum
    · rw [if_pos h2] at h; cases h
    · rw [if_neg h2] at h
      by_cases h3 : ∀ o ∈ own, opOk o
      · simp only [not_or] at h1
        refine ⟨by omega, by omega, by omega, fun n hn => ?_, by omega, h3⟩
        have h4 : th.any (fun n => decide (n < 0)) = false := by simpa using h1.2.2.2
        have := List.any_eq_false.1 h4 n hn
        simpa using this
      · rw [if_pos h3] at h; cases h
theorem good_new {r : Int} (h : newE r own th = 0) : Good (newDq r.toNat own th) := by
  obtain ⟨h1, h2, h3, h4, h5, h6⟩ := newE_zero h
  have hm : ∀ n ∈ th, n ≤ th.sum := fun n hn => by
    obtain ⟨j, hj, rfl⟩ := List.mem_iff_getElem.1 hn
    have := sum_takes th h4 (j + 1)
    have e := sum_take th j hj
    have := sum_takes th h4 j
    omega
  have hsum := sum_pos th h4
  refine ⟨0, [], hd0 own, th.map (fun n => hd0 (List.replicate n.toNat (3, 0))), ⟨rfl, .inl ⟨rfl, rfl, rfl⟩, fun o ho => (h6 o ho).1, ?_, ?_, ?_, ?_, Int.le_refl _, Int.le_refl _, ?_, ?_, ?_, Int.le_refl _, ?_⟩⟩
  · intro x hx
    obtain ⟨n, _, rfl⟩ := List.mem_map.1 hx
    exact ⟨by simp [hd0], by simp [hd0], by simp [hd0], by simp [hd0], by simp [hd0], by simp [hd0], by simp [hd0], by simp [hd0]⟩
  · intro x hx o ho
    obtain ⟨n, _, rfl⟩ := List.mem_map.1 hx
    have := List.eq_of_mem_replicate ho
    rw [this]
  · intro x hx
    rcases List.mem_cons.1 hx with rfl | hx
    · simp [hd0]
    · obtain ⟨n, _, rfl⟩ := List.mem_map.1 hx; simp [hd0]
  · intro x hx
    rcases List.mem_cons.1 hx with rfl | hx
    · show own.length ≤ 4096; omega
    · obtain ⟨n, hn, rfl⟩ := List.mem_map.1 hx
      show (List.replicate n.toNat ((3 : Int), (0 : Int))).length ≤ 4096
      rw [List.length_replicate]
      have := hm n hn; omega
  · show (0 : Int) - 0 ≤ (List.replicate r.toNat (0 : Int)).length
    omega
  · show 0 < (List.replicate r.toNat (0 : Int)).length
    rw [List.length_replicate]; omega
  · show (List.replicate r.toNat (0 : Int)).length ≤ 256
    rw [List.length_replicate]; omega
  · intro x hx
    rcases List.mem_cons.1 hx with rfl | hx
    · show (-1 : Int) - 0 ≤ 0 ∧ (0 : Int) ≤ 0 + 1; omega
    · obtain ⟨n, hn, rfl⟩ := List.mem_map.1 hx
      show (-1 : Int) - 0 ≤ 0 ∧ (0 : Int) ≤ 0 + 1; omega
def NewMach (w : World) (S : Dq) (e : Ending) (w' : World) : Prop := ∃ d fp, e = .returned (.tuple #[.pointer (some ⟨d, 0, none⟩), .int .i64 0]) ∧ Mach w' w.heap.size d S fp ∧ Below w.heap.size w w'
theorem new_mach {r : Int} (h : newE r own th = 0) (HI : NewIn w p1 c1 own p2 c2 th) (hol : own.length ≤ 140737488355328) (hl : th.length ≤ maxLen) (hw : ∀ n ∈ th, n ≤ 9223372036854775807) :
    Calls Try.prog 10 #[.int .i64 r, .slice p1 own.length c1, .slice p2 th.length c2] w (NewMach w (newDq r.toNat own th)) := by
  refine (new_any r HI hol hl hw).mono ?_
  rintro e w' (⟨_, d, P, c, hsv, hb, sv, wv, he, H, hb2⟩ | ⟨h2, _⟩)
  · exact ⟨d, _, he, H.mach, hb2⟩
  · exact absurd h h2
theorem new_not {r : Int} (h : newE r own th ≠ 0) (HI : NewIn w p1 c1 own p2 c2 th) (hol : own.length ≤ 140737488355328) (hl : th.length ≤ maxLen) (hw : ∀ n ∈ th, n ≤ 9223372036854775807) :
    Calls Try.prog 10 #[.int .i64 r, .slice p1 own.length c1, .slice p2 th.length c2] w (NoDq w (newE r own th)) := by
  refine (new_any r HI hol hl hw).mono ?_
  rintro e w' (⟨h2, _⟩ | ⟨_, h2⟩)
  · exact absurd h2 h
  · exact h2
end Go.Proofs.Ytpgdpddmgljpmaa
