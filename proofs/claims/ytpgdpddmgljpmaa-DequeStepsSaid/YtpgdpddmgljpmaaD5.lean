/-
  A whole deque: hand, Done, Step, Workers, Steps.
-/
import Derived.Test.YtpgdpddmgljpmaaD4
namespace Go.Proofs.Ytpgdpddmgljpmaa
open Go.RowKit
variable {w w' : World} {base d P c : Nat} {hsv : Value} {hb : Nat → Nat} {sv wv : Nat → Value} {S : Dq}

/-- Worker i's view. -/
theorem DqIs.st (H : DqIs w base d P c hsv hb sv wv S) (i : Nat) (hi : i < S.hs.length) : St w base d (hb i) P c (wv i) hsv (S.ss S.hs[i]) (sv i) :=
  ⟨H.dd, H.hand i hi, H.pp, H.own i hi, H.bs⟩
theorem own_ge' {v : Value} {n : Nat} {xs : List Value} {e : TypeId} {size : Nat} (h : w.ownsRow base e size v n xs) : ∀ g, v.ownBlock = some g → base ≤ g := fun g hg => (h.lt g hg).1

/-- Behind a worker's access the deque stands as the plain step says. -/
theorem DqIs.turn (H : DqIs w base d P c hsv hb sv wv S) (i : Nat) (hi : i < S.hs.length) (s' : SS) (sv' : Value) (h' : St w' base d (hb i) P c (wv i) hsv s' sv')
    (ho : Only [some d, some (hb i), some P, (sv i).ownBlock] w w') (hst : Stayed w (sv i) sv') :
    DqIs w' base d P c hsv hb (fun j => if j = i then sv' else sv j) wv (S.upd i S.hs[i] s') := by
  have hl : (S.upd i S.hs[i] s').hs.length = S.hs.length := by simp [Dq.upd]
  have hsame : (S.upd i S.hs[i] s').hs[i]'(by rw [hl]; exact hi) = ⟨S.hs[i].ops, s'.said, s'.at_, s'.t, s'.b, s'.v, s'.won⟩ := by simp [Dq.upd]
  have hother : ∀ j (hj : j < S.hs.length), j ≠ i → (S.upd i S.hs[i] s').hs[j]'(by rw [hl]; exact hj) = S.hs[j] := fun j hj hne => by simp [Dq.upd, List.getElem_set, Ne.symm hne]
  have HI := H.st i hi
  have hlt : ∀ j (hj : j < S.hs.length), hb j < w.heap.size := fun j hj => (H.hand j hj).lt
  refine ⟨h'.dd, h'.pp, ?_, ?_, ?_, ?_, ?_, ?_, h'.hb, H.bd, H.bP, ?_⟩
  · rw [hl]
    exact own_only H.hown ho (fun g hg hm => by
      obtain ⟨cur, hc⟩ := own_typeA H.hown g hg
      simp only [List.mem_cons, List.not_mem_nil, or_false, Option.some.injEq] at hm
      rcases hm with rfl | rfl | rfl | hm
      · have := H.dd; unfold DAt at this; rw [hc] at this; cases this
      · have := H.hand i hi; unfold HAt at this; rw [hc] at this; cases this
      · have := H.pp; unfold PAt at this; rw [hc] at this; injection this with h2; injection h2 with _ h3; cases h3
      · obtain ⟨cur2, hc2⟩ := own_typeA (H.own i hi) g hm.symm; rw [hc] at hc2; cases hc2)
  · intro j hj
    rw [hl] at hj
    by_cases hji : j = i
    · subst hji; rw [hsame]; simp only [if_true]; exact h'.hh
    · rw [hother j hj hji]; simp only [if_neg hji]
      refine (ho.block (hb j) (hlt j hj) ?_).trans (H.hand j hj)
      have hh := H.hand j hj
      unfold HAt at hh
      simp only [List.mem_cons, List.not_mem_nil, or_false, Option.some.injEq, not_or]
      refine ⟨fun e => ?_, fun e => hji (H.nd j i hj hi e), fun e => ?_, fun e => ?_⟩
      · have := H.dd; unfold DAt at this; rw [e, this] at hh; injection hh with h2; injection h2 with _ h3; cases h3
      · have := H.pp; unfold PAt at this; rw [e, this] at hh; injection hh with h2; injection h2 with _ h3; cases h3
      · obtain ⟨cur2, hc2⟩ := own_typeA (H.own i hi) (hb j) e.symm; rw [hc2] at hh; cases hh
  · intro j hj
    rw [hl] at hj
    by_cases hji : j = i
    · subst hji; rw [hsame]; simp only [if_true]; exact h'.own
    · rw [hother j hj hji]; simp only [if_neg hji]
      refine own_only (H.own j hj) ho (fun g hg hm => ?_)
      obtain ⟨cur, hc⟩ := own_typeA (H.own j hj) g hg
      simp only [List.mem_cons, List.not_mem_nil, or_false, Option.some.injEq] at hm
      rcases hm with rfl | rfl | rfl | hm
      · have := H.dd; unfold DAt at this; rw [hc] at this; cases this
      · have := H.hand i hi; unfold HAt at this; rw [hc] at this; cases this
      · have := H.pp; unfold PAt at this; rw [hc] at this; injection this with h2; injection h2 with _ h3; cases h3
      · exact H.apart j i hj hi hji g hg hm.symm
  · intro j hj
    rw [hl] at hj
    have hops : ((S.upd i S.hs[i] s').hs[j]'(by rw [hl]; exact hj)).ops = S.hs[j].ops := by
      by_cases hji : j = i
      · subst hji; rw [hsame]
      · rw [hother j hj hji]
    rw [hops]
    refine (H.work j hj).only ho (fun k hk hm cur fz hc => ?_)
    simp only [List.mem_cons, List.not_mem_nil, or_false, Option.some.injEq] at hm
    rcases hm with rfl | rfl | rfl | hm
    · have := H.dd; unfold DAt at this; rw [hc] at this; cases this
    · have := H.hand i hi; unfold HAt at this; rw [hc] at this; cases this
    · have := H.pp; unfold PAt at this; rw [hc] at this; injection this with h2; injection h2 with _ h3; cases h3
    · obtain ⟨cur2, hc2⟩ := own_typeA (H.own i hi) k hm.symm; rw [hc] at hc2; cases hc2
  · intro a b ha hb'; rw [hl] at ha hb'; exact H.nd a b ha hb'
  · intro a b ha hb' hne
    rw [hl] at ha hb'
    have hv : ∀ j, j < S.hs.length → j ≠ i → Apart sv' (sv j) := fun j hj hji => by
      intro g hg hgj
      rcases hst g hg with h | h
      · exact H.apart i j hi hj (Ne.symm hji) g h hgj
      · have := own_lt (H.own j hj) g hgj; omega
    by_cases hai : a = i
    · have hbi : b ≠ i := fun e => hne (by rw [hai, e])
      simp only [hai, if_true, if_neg hbi]; exact hv b hb' hbi
    · by_cases hbi : b = i
      · simp only [hbi, if_true, if_neg hai]; exact (hv a ha hai).symm
      · simp only [if_neg hai, if_neg hbi]; exact H.apart a b ha hb' hne
  · intro j hj; rw [hl] at hj; exact H.bh j hj

/-- What lay below the deque's own beginning lies on. -/
theorem DqIs.below (H : DqIs w base d P c hsv hb sv wv S) (i : Nat) (hi : i < S.hs.length) (ho : Only [some d, some (hb i), some P, (sv i).ownBlock] w w') : Below base w w' :=
  ⟨ho.os, ho.tape, ho.output, ho.size, fun k hk => ho.block k (Nat.lt_of_lt_of_le hk H.bs) (by
    simp only [List.mem_cons, List.not_mem_nil, or_false, Option.some.injEq, not_or]
    exact ⟨fun e => by have := H.bd; omega, fun e => by have := H.bh i hi; omega, fun e => by have := H.bP; omega, fun e => by have := own_ge' (H.own i hi) k e.symm; omega⟩)⟩
theorem DqIs.drewN (H : DqIs w base d P c hsv hb sv wv S) (q : Nat) : DqIs (w.drewN q) base d P c hsv hb sv wv S :=
  ⟨H.dd, H.pp, H.hown, H.hand, H.own, fun i hi => ⟨(H.work i hi).ex⟩, H.nd, H.apart, H.bs, H.bd, H.bP, H.bh⟩

/-- A nil deque has no hands. -/
theorem hand_nil (n : Int) (w : World) : Calls Try.prog 37 #[.pointer none, .int .i64 n] w fun e w' => e = .returned (.pointer none) ∧ w' = w := by
  go_enter Try.func37, Try.ntmps37
  go_wp2
  go_ret
  exact ⟨rfl, rfl⟩
set_option maxHeartbeats 1000000 in
theorem hand_any (H : DqIs w base d P c hsv hb sv wv S) (n : Int) (hlen : S.hs.length ≤ 64) :
    Calls Try.prog 37 #[.pointer (some ⟨d, 0, none⟩), .int .i64 n] w fun e w' => e = .returned (.pointer (if 0 ≤ n ∧ n < S.hs.length then some ⟨hb n.toNat, 0, none⟩ else none)) ∧ w' = w := by
  have c4 := cell_of_row w d 4 _ _ _ H.dd
  simp at c4
  obtain ⟨hp, hc, hhs, h1, h2, hr, hn0, _⟩ := own_row H.hown
  rw [hhs] at c4
  by_cases h0 : n < 0
  · rw [if_neg (by omega)]
    go_enter Try.func37, Try.ntmps37
    go_wp2
    go_ret
    exact ⟨rfl, rfl⟩
  · by_cases hl : (S.hs.length : Int) ≤ n
    · rw [if_neg (by omega)]
      go_enter Try.func37, Try.ntmps37
      go_wp2
      go_ret
      exact ⟨rfl, rfl⟩
    · rw [if_pos (by omega)]
      obtain ⟨k, rfl⟩ : ∃ k : Nat, n = k := ⟨n.toNat, by omega⟩
      have hk : k < S.hs.length := by omega
      obtain ⟨b, o, rfl, _, hcell⟩ := hr.at (by simp; omega)
      have hck := hcell k (by simpa using hk)
      simp only [List.getElem_map, List.getElem_range] at hck
      rw [Int.toNat_natCast]
      clear hcell
      go_enter Try.func37, Try.ntmps37
      go_wp2
      go_ret
      exact ⟨rfl, rfl⟩

theorem Try_waits (v : Value) (n : Int) (w : World) : Calls Try.prog 24 #[v, .int .i64 n] w fun e w' => e = .returned (.bool false) ∧ w' = w := by
  go_enter Try.func24, Try.ntmps24
  go_wp2
  go_ret
  exact ⟨rfl, rfl⟩

/-- Done of any worker's number. -/
def Dq.doneN (S : Dq) (n : Int) : Bool := if 0 ≤ n ∧ n < S.hs.length then (match S.hs[n.toNat]? with | some x => x.done | none => true) else true

set_option maxHeartbeats 1000000 in
theorem done_any (H : DqIs w base d P c hsv hb sv wv S) (n : Int) (hlen : S.hs.length ≤ 64) :
    Calls Try.prog 16 #[.pointer (some ⟨d, 0, none⟩), .int .i64 n] w fun e w' => e = .returned (.bool (S.doneN n)) ∧ ∃ q, w' = w.drewN q := by
  have HA := hid (hand_any H n hlen)
  by_cases hk : 0 ≤ n ∧ n < S.hs.length
  · rw [if_pos hk] at HA
    obtain ⟨k, rfl⟩ : ∃ k : Nat, n = k := ⟨n.toNat, by omega⟩
    have hk2 : k < S.hs.length := by omega
    have HD : Hid (S.doneN k = S.hs[k].done) := by simp [Hid, Dq.doneN, hk2]
    rw [Int.toNat_natCast] at HA
    have hh := H.hand k hk2
    have c0 := cell_of_row w (hb k) 0 _ _ _ hh
    have c1 := cell_of_row w (hb k) 1 _ _ _ hh
    obtain ⟨wp, wc, hwv, _, _⟩ := (H.work k hk2).ex
    obtain ⟨sp, sc, hsv', _, _, _, _, _⟩ := own_row (H.own k hk2)
    simp only [List.getElem?_toArray, List.getElem?_cons_succ, List.getElem?_cons_zero] at c0 c1
    rw [hwv] at c0
    rw [hsv'] at c1
    have HDN : Hid (S.hs[k].done = ((S.hs[k].said.length : Int) == S.hs[k].ops.length)) := by
      show S.hs[k].done = _
      unfold Hd.done
      rw [Bool.eq_iff_iff]; simp; omega
    generalize hb k = hk' at *
    generalize S.hs[k] = x at *
    clear hk hh hwv hsv' H
    go_enter Try.func16, Try.ntmps16
    go_wp2_with (go_at_call 37; refine HA.out.mono ?_; rintro e w2 ⟨rfl, rfl⟩)
    go_quiet (fail)
    go_wp2
    go_ret
    exact ⟨ret_bool (by rw [HD.out, HDN.out]), _, rfl⟩
  · rw [if_neg hk] at HA
    have HD : Hid (S.doneN n = true) := if_neg hk
    clear hk
    go_enter Try.func16, Try.ntmps16
    go_wp2_with (go_at_call 37; refine HA.out.mono ?_; rintro e w2 ⟨rfl, rfl⟩)
    go_quiet (fail)
    go_wp2
    go_ret
    exact ⟨ret_bool (by rw [HD.out]), _, rfl⟩
end Go.Proofs.Ytpgdpddmgljpmaa
