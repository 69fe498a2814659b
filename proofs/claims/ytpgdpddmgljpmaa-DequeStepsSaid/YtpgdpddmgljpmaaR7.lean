/-
  One access of the document's deque.
-/
import Derived.Test.YtpgdpddmgljpmaaR6
namespace Go.Proofs.Ytpgdpddmgljpmaa
open Go.RowKit
variable {W W' : World} {c : RC} {av : Nat → Value} {R S : Dq} {i : Nat} {x : Hd} {s : SS}

theorem rpush_any (H : RV W c av R i x s) (k v : Int) (hlen : R.hs.length ≤ 64) (hf : Fit s) (ho : pushOk s) :
    Calls Try.prog 43 #[.pointer (some ⟨c.r, 0, none⟩), .int .i64 i, .agg #[.int .i64 k, .int .i64 v]] W (RPost W c av R i x (rpushS s v)) := by
  rcases ho with ha | ⟨ha, h0⟩ | ha
  · by_cases hx : s.bottom - s.top = s.pl.length
    · have e : rpushS s v = rend { s with b := s.bottom } false 0 := by unfold rpushS; rw [if_pos ha, if_pos hx]
      rw [e]; exact rpush1f H k v hlen hf ha hx
    · have e : rpushS s v = { s with b := s.bottom } := by unfold rpushS; rw [if_pos ha, if_neg hx]
      rw [e]; exact rpush1 H k v hlen hf ha hx
  · have e : rpushS s v = { s with pl := putP s.pl s.b v } := by unfold rpushS; rw [if_neg (by omega), if_pos ha]
    rw [e]; exact rpush2 H k v hlen hf ha h0
  · have e : rpushS s v = rend { s with bottom := s.b + 1 } true v := by unfold rpushS; rw [if_neg (by omega), if_neg (by omega)]
    rw [e]; exact rpush3 H k v hlen hf ha
def rpopOk (s : SS) : Prop := s.at_ = 1 ∨ s.at_ = 2 ∨ (s.at_ = 3 ∧ 0 ≤ s.b) ∨ s.at_ = 4
theorem rpop_any (H : RV W c av R i x s) (hlen : R.hs.length ≤ 64) (hf : Fit s) (ho : rpopOk s) :
    Calls Try.prog 44 #[.pointer (some ⟨c.r, 0, none⟩), .int .i64 i] W (RPost W c av R i x (rpopS s)) := by
  rcases ho with ha | ha | ⟨ha, h0⟩ | ha
  · have e : rpopS s = { s with b := s.bottom, bottom := s.bottom - 1 } := by unfold rpopS; rw [if_pos ha]
    rw [e]; exact rpop1 H hlen hf ha
  · have e : rpopS s = { s with t := s.top } := by unfold rpopS; rw [if_neg (by omega), if_pos ha]
    rw [e]; exact rpop2 H hlen hf ha
  · have e : rpopS s = if s.b - 1 < s.t then rend { s with bottom := s.b } false 0 else if s.t < s.b - 1 then rend s true (getR s.pl (s.b - 1)) else if s.top = s.t then { s with v := getR s.pl (s.b - 1), top := s.top + 1, won := true } else { s with v := getR s.pl (s.b - 1) } := by
      unfold rpopS; rw [if_neg (by omega), if_neg (by omega), if_pos ha]
    rw [e]
    by_cases h1 : s.b - 1 < s.t
    · rw [if_pos h1]; exact rpop3e H hlen hf ha h0 h1
    · rw [if_neg h1]
      by_cases h2 : s.t < s.b - 1
      · rw [if_pos h2]; exact rpop3y H hlen hf ha h0 h2
      · rw [if_neg h2]
        by_cases h3 : s.top = s.t
        · rw [if_pos h3]; exact rpop3w H hlen hf ha h0 (by omega) h3
        · rw [if_neg h3]; exact rpop3l H hlen hf ha h0 (by omega) h3
  · have e : rpopS s = rend { s with bottom := s.b } s.won s.v := by unfold rpopS; rw [if_neg (by omega), if_neg (by omega), if_neg (by omega)]
    rw [e]; exact rpop4 H hlen hf ha
def rstealOk (s : SS) : Prop := s.at_ = 1 ∨ s.at_ = 2 ∨ (s.at_ = 3 ∧ 0 ≤ s.t ∧ s.t ≤ 1000000000000) ∨ s.at_ = 4
theorem rsteal_any (H : RV W c av R i x s) (hlen : R.hs.length ≤ 64) (hf : Fit s) (ho : rstealOk s) :
    Calls Try.prog 45 #[.pointer (some ⟨c.r, 0, none⟩), .int .i64 i] W (RPost W c av R i x (rstealS s)) := by
  rcases ho with ha | ha | ⟨ha, h0, h1⟩ | ha
  · have e : rstealS s = { s with t := s.top } := by unfold rstealS; rw [if_pos ha]
    rw [e]; exact rsteal1 H hlen hf ha
  · by_cases hx : s.bottom ≤ s.t
    · have e : rstealS s = rend s false 0 := by unfold rstealS; rw [if_neg (by omega), if_pos ha, if_pos hx]
      rw [e]; exact rsteal2f H hlen hf ha hx
    · have e : rstealS s = s := by unfold rstealS; rw [if_neg (by omega), if_pos ha, if_neg hx]
      rw [e]; exact rsteal2 H hlen hf ha hx
  · have e : rstealS s = { s with v := getR s.pl s.t } := by unfold rstealS; rw [if_neg (by omega), if_neg (by omega), if_pos ha]
    rw [e]; exact rsteal3 H hlen hf ha h0 h1
  · by_cases hx : s.top = s.t
    · have e : rstealS s = rend { s with top := s.top + 1 } true s.v := by unfold rstealS; rw [if_neg (by omega), if_neg (by omega), if_neg (by omega)]; simp [hx]
      rw [e]; exact rsteal4w H hlen hf ha hx
    · have e : rstealS s = rend s false s.v := by unfold rstealS; rw [if_neg (by omega), if_neg (by omega), if_neg (by omega)]; simp [hx]
      rw [e]; exact rsteal4l H hlen hf ha hx

/-- The view ahead of an access. -/
def ahead (R : Dq) (y : Hd) : SS := { R.ss y with at_ := y.at_ + 1, count := R.count + 1 }
theorem ref_ok (HS : Sim S R) (hg : Good S) (hc : S.count ≤ 1000000) (i : Nat) (x y : Hd) (o : Int × Int) (hx : S.hs[i]? = some x) (hy : R.hs[i]? = some y) (ho : x.ops[x.said.length]? = some o) :
    Fit (ahead R y) ∧ (o.1 = 1 → pushOk (ahead R y)) ∧ (o.1 = 2 → rpopOk (ahead R y)) ∧ (o.1 ≠ 1 → o.1 ≠ 2 → rstealOk (ahead R y)) := by
  obtain ⟨L, p, x0, th, HI⟩ := hg
  obtain ⟨⟨hfit, hk⟩, _, _⟩ := any_ok HI hc i x hx ho
  have hr := HS.hs i x y hx hy
  obtain ⟨f1, f2, f3, f4, f5, f6, f7⟩ := hfit
  have e1 := HS.top
  have e2 := HS.bottom
  have e3 := HS.count
  have e4 := HS.pl
  have c0 := HI.c0
  have tL := HI.tL
  have t0 := HI.t0
  refine ⟨⟨by show _ ∧ _; simp only [ahead, Dq.ss] at *; omega, by simp only [ahead, Dq.ss] at *; omega, by simp only [ahead, Dq.ss] at *; omega, ?_, by simp only [ahead, Dq.ss] at *; rw [e4]; exact f5, by simp only [ahead, Dq.ss] at *; rw [e4]; exact f6, ?_⟩, ?_, ?_, ?_⟩
  · simp only [ahead, Dq.ss] at *
    rcases hr.b0 with h | h <;> rw [h] <;> omega
  · simp only [ahead, Dq.ss] at *
    rw [hr.said]; exact f7
  · intro h1
    rw [if_pos h1] at hk
    simp only [ahead, Dq.ss, pushOk] at hk ⊢
    rw [hr.at_]
    rcases hk with h | ⟨h, h2⟩ | h
    · exact .inl h
    · rw [hr.push o ho (by omega) h1]; exact .inr (.inl ⟨h, h2⟩)
    · exact .inr (.inr h)
  · intro h2
    rw [if_neg (by omega), if_pos (.inr h2)] at hk
    simp only [ahead, Dq.ss, popOk, rpopOk] at hk ⊢
    rw [hr.at_]
    rcases hk with h | h | ⟨h, h3⟩ | ⟨h, h3⟩
    · exact .inl h
    · exact .inr (.inl h)
    · refine .inr (.inr (.inl ⟨h, ?_⟩))
      rw [(hr.pop o ho (by omega) h2).1]
      -- the owner's b
      have hi0 : i = 0 := by
        cases i with
        | zero => rfl
        | succ k =>
          rw [HI.hs] at hx
          have := HI.tho x (List.mem_of_getElem? (by simpa using hx)) o (List.mem_of_getElem? ho)
          omega
      subst hi0
      have hxx : x0 = x := by rw [HI.hs] at hx; simpa using hx
      subst hxx
      rcases HI.own with ⟨ha, _⟩ | ⟨o', ho', ⟨k1, _⟩ | ⟨_, k2, k3, _⟩⟩
      · omega
      · rw [ho] at ho'; cases ho'; omega
      · omega
    · exact .inr (.inr (.inr h))
  · intro h1 h2
    have hi0 : i ≠ 0 := by
      rintro rfl
      have hxx : x0 = x := by rw [HI.hs] at hx; simpa using hx
      subst hxx
      have := HI.ops o (List.mem_of_getElem? ho)
      omega
    rw [if_neg h1, if_neg (by omega)] at hk
    obtain ⟨k, rfl⟩ : ∃ k, i = k + 1 := ⟨i - 1, by omega⟩
    have hxm : x ∈ th := by rw [HI.hs] at hx; exact List.mem_of_getElem? (by simpa using hx)
    have h3 := HI.tho x hxm o (List.mem_of_getElem? ho)
    have hth := HI.thi x hxm
    have htt := hth.tt
    have ht0 := hth.t0
    simp only [ahead, Dq.ss, stealOk, rstealOk] at hk ⊢
    rw [hr.at_]
    rcases hk with h | h | ⟨h, h4⟩ | h
    · exact .inl h
    · exact .inr (.inl h)
    · refine .inr (.inr (.inl ⟨h, ?_⟩))
      rw [(hr.steal o ho (by omega) h3).1]
      have := htt (by omega)
      omega
    · exact .inr (.inr (.inr h))

set_option maxRecDepth 100000 in
set_option maxHeartbeats 4000000 in
theorem rstep_do (H : RefIs W c av R) (hlen : R.hs.length ≤ 64) (i : Nat) (y : Hd) (o : Int × Int) (hy : R.hs[i]? = some y) (ho : y.ops[y.said.length]? = some o) (hat : -1000 ≤ y.at_ ∧ y.at_ ≤ 1000) (hct : -1000000 ≤ R.count ∧ R.count ≤ 1000000)
    (hok : Fit (ahead R y) ∧ (o.1 = 1 → pushOk (ahead R y)) ∧ (o.1 = 2 → rpopOk (ahead R y)) ∧ (o.1 ≠ 1 → o.1 ≠ 2 → rstealOk (ahead R y))) :
    Calls Try.prog 22 #[.pointer (some ⟨c.r, 0, none⟩), .int .i64 i] W (RPost W c av R i y (rstepH R y o)) := by
  obtain ⟨k1, k2, k3, k4⟩ := hok
  have hv := RV.of H hy
  obtain ⟨hi, hyy⟩ := List.getElem?_eq_some_iff.1 hy
  obtain ⟨hso, hoo⟩ := List.getElem?_eq_some_iff.1 ho
  have hiI : (i : Int) < R.hs.length := by omega
  have hnd : R.doneN i = false := by
    unfold Dq.doneN
    rw [if_pos (by omega), Int.toNat_natCast, hy]
    simp [Hd.done]; omega
  have hdn := done_ref H i hlen
  rw [hnd] at hdn
  have HDN := hid hdn
  have w1 : wrap64 (R.count + 1) = R.count + 1 := wrap_small (by omega) (by omega)
  have w2 : wrap64 (y.at_ + 1) = y.at_ + 1 := wrap_small (by omega) (by omega)
  -- behind the two counts
  have HQ : Hid (∀ q, RV (((W.drewN q).setCell ⟨c.r, 7, none⟩ (i64 (R.count + 1))).setCell ⟨c.HB, i * 5, none⟩ (i64 (y.at_ + 1))) c av R i y (ahead R y)) := fun q => ((hv.drewN q).setCount (R.count + 1)).setAt (y.at_ + 1)
  have HO : Hid (∀ q, Only (rB c av i) W (((W.drewN q).setCell ⟨c.r, 7, none⟩ (i64 (R.count + 1))).setCell ⟨c.HB, i * 5, none⟩ (i64 (y.at_ + 1)))) := fun q => ((((Only.refl W).wide (fun _ h => by cases h)).drewN q).set ⟨c.r, 7, none⟩ _ (.inl (by simp [rB]))).set ⟨c.HB, i * 5, none⟩ _ (.inl (by simp [rB]))
  have hC := hv.cells
  have r5 := hC.r5
  have r7 : W.cell? ⟨c.r, 7, none⟩ = some (.int .i64 R.count) := hC.r7
  have h0 : W.cell? ⟨c.HB, i * 5, none⟩ = some (.int .i64 y.at_) := hC.h0
  have fr7 := hC.fr 7
  have fh0 := hC.fh (i * 5)
  obtain ⟨ne1, ne2, ne3, ne4, ne5, ne6⟩ := hv.ne
  have HK1 := hid k1
  have HK2 := hid k2
  have HK3 := hid k3
  have HK4 := hid k4
  clear hC hdn hnd k1 k2 k3 k4 hv hct hat
  go_enter Try.func22, Try.ntmps22
  go_wp2_with (go_at_call 23; refine HDN.out.mono ?_; rintro e w2 ⟨rfl, q, rfl⟩)
  have H1 := HQ.out q
  have O1 := HO.out q
  generalize ((W.drewN q).setCell ⟨c.r, 7, none⟩ (i64 (R.count + 1))).setCell ⟨c.HB, i * 5, none⟩ (i64 (y.at_ + 1)) = W1 at *
  clear HQ HO r5 r7 h0 fr7 fh0 HDN
  have hl := upd_len R i y (ahead R y)
  obtain ⟨⟨b, oo, m, wc, hop, hblt, hov1, hov2⟩, hav1, ⟨m2, ac, hav2⟩, hABlt⟩ := H1.is.row i (by rw [hl]; exact hi)
  obtain ⟨p', wc', hov3, hrow, _⟩ := (H1.is.ow i (by rw [hl]; exact hi)).ex
  rw [upd_get _ _ _ _ hi] at hov2 hav2 hov3 hrow
  dsimp only at hov2 hav2 hov3 hrow
  rw [hov3] at hov2
  cases hov2
  have hsaid : (ahead R y).said = y.said := rfl
  rw [hsaid] at hav2
  obtain ⟨b2, o2, hb2, hb2lt, _⟩ := hrow.at (by rw [opCells_len]; omega)
  subst hb2
  obtain ⟨q1, q2⟩ := op_cells hrow _ hso
  rw [hoo] at q1 q2
  have hC := H1.cells
  have r4 := hC.r4
  have r6 := hC.r6
  rw [hop] at r4
  rw [hov3] at hov1
  rw [hav2] at hav1
  have hrlt := H1.lt.1
  have hsoI : (y.said.length : Int) < y.ops.length := by omega
  have hnI : (R.hs.length : Int) ≤ 64 := by omega
  have g1 : ∀ w', Below W1.heap.size W1 w' → w'.cell? ⟨c.r, 4, none⟩ = some (.slice (some ⟨b, oo, none⟩) R.hs.length c.oc) := fun w' hb => (hb.cell (p := ⟨c.r, 4, none⟩) hrlt).trans r4
  have g2 : ∀ w', Below W1.heap.size W1 w' → w'.cell? ⟨c.r, 6, none⟩ = some (.slice (some ⟨c.AB, 0, none⟩) R.hs.length R.hs.length) := fun w' hb => (hb.cell (p := ⟨c.r, 6, none⟩) hrlt).trans r6
  have g3 : ∀ w', Below W1.heap.size W1 w' → w'.cell? ⟨b, oo + i, none⟩ = some (.slice (some ⟨b2, o2, none⟩) y.ops.length wc) := fun w' hb => (hb.cell (p := ⟨b, oo + i, none⟩) hblt).trans hov1
  have g4 : ∀ w', Below W1.heap.size W1 w' → w'.cell? ⟨c.AB, i, none⟩ = some (.slice m2 y.said.length ac) := fun w' hb => (hb.cell (p := ⟨c.AB, i, none⟩) hABlt).trans hav1
  have g5 : ∀ w', Below W1.heap.size W1 w' → w'.cell? ⟨b2, o2 + y.said.length * 2, none⟩ = some (.int .i64 o.1) := fun w' hb => (hb.cell (p := ⟨b2, o2 + y.said.length * 2, none⟩) hb2lt).trans q1
  have g6 : ∀ w', Below W1.heap.size W1 w' → w'.cell? ⟨b2, o2 + y.said.length * 2 + 1, none⟩ = some (.int .i64 o.2) := fun w' hb => (hb.cell (p := ⟨b2, o2 + y.said.length * 2 + 1, none⟩) hb2lt).trans q2
  have H1H := hid H1
  have O1H := hid O1
  clear r4 r6 hov1 hav1 q1 q2 hC hop hov3 hav2 hsaid hrow H1 O1
  go_region_held3 (fun w' => Below W1.heap.size W1 w') (first | exact (Below.refl _ _).drew | exact ((Below.refl _ _).drew).alloc (Nat.le_refl _) _ | assumption) (first | fail)
  have H2 : RV (W1.alloc (.cells #[i64 o.1, i64 o.2] 27)).drew c av R i y (ahead R y) := (H1H.out.alloc _).drewN 1
  have O2 : Only (rB c av i) W (W1.alloc (.cells #[i64 o.1, i64 o.2] 27)).drew := (O1H.out.alloc _).drewN 1
  have n0 := cell_of_row (W1.alloc (.cells #[i64 o.1, i64 o.2] 27)).drew W1.heap.size 0 _ _ _ (heap_alloc_new W1 _)
  have n1 := cell_of_row (W1.alloc (.cells #[i64 o.1, i64 o.2] 27)).drew W1.heap.size 1 _ _ _ (heap_alloc_new W1 _)
  simp only [List.getElem?_toArray, List.getElem?_cons_zero, List.getElem?_cons_succ] at n0 n1
  generalize (W1.alloc (.cells #[i64 o.1, i64 o.2] 27)).drew = W2 at *
  have HH2 := hid H2
  have OO2 := hid O2
  clear g1 g2 g3 g4 g5 g6 H2 O2 H1H O1H
  by_cases e1 : o.1 = 1
  · have d1 : (o.1 == 1) = true := by simp [e1]
    have HP := hid (HK2.out e1)
    have HS : Hid (rstepH R y o = rpushS (ahead R y) o.2) := by show _ = _; unfold rstepH; rw [if_pos e1]; rfl
    clear e1
    go_wp2_with (go_at_call 43; refine (rpush_any HH2.out o.1 o.2 hlen HK1.out HP.out).mono ?_; rintro e w9 hp9; obtain ⟨rfl, hq9⟩ := RPost.ret hp9; have HP9 := hid hq9; clear hq9 hp9)
    go_end0
    rw [HS.out]
    exact RPost.more OO2.out ⟨rfl, HP9.out⟩
  · have d1 : (o.1 == 1) = false := by simp [e1]
    by_cases e2 : o.1 = 2
    · have d2 : (o.1 == 2) = true := by simp [e2]
      have HP := hid (HK3.out e2)
      have HS : Hid (rstepH R y o = rpopS (ahead R y)) := by show _ = _; unfold rstepH; rw [if_neg e1, if_pos e2]; rfl
      clear e1 e2
      go_wp2_with (go_at_call 44; refine (rpop_any HH2.out hlen HK1.out HP.out).mono ?_; rintro e w9 hp9; obtain ⟨rfl, hq9⟩ := RPost.ret hp9; have HP9 := hid hq9; clear hq9 hp9)
      go_end0
      rw [HS.out]
      exact RPost.more OO2.out ⟨rfl, HP9.out⟩
    · have d2 : (o.1 == 2) = false := by simp [e2]
      have HP := hid (HK4.out e1 e2)
      have HS : Hid (rstepH R y o = rstealS (ahead R y)) := by show _ = _; unfold rstepH; rw [if_neg e1, if_neg e2]; rfl
      clear e1 e2
      go_wp2_with (go_at_call 45; refine (rsteal_any HH2.out hlen HK1.out HP.out).mono ?_; rintro e w9 hp9; obtain ⟨rfl, hq9⟩ := RPost.ret hp9; have HP9 := hid hq9; clear hq9 hp9)
      go_end0
      rw [HS.out]
      exact RPost.more OO2.out ⟨rfl, HP9.out⟩
end Go.Proofs.Ytpgdpddmgljpmaa
