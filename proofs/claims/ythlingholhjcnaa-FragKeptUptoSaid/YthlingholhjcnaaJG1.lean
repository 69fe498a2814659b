/-
  Units put together in groups are all put together: what is joined is in order; the law.
-/
import Derived.Test.YthlingholhjcnaaJG0
namespace Go.Proofs.Ythlingholhjcnaa
open Go.RowKit

/-- A unit whose parts have names of their own, whose marks' parts are there. -/
structure WF (U : FP) : Prop where
  nd : (nms U.ps).Nodup
  ms : ∀ m ∈ U.ms, (0 ≤ m.part ∧ m.part < U.ps.length ∧ IntKind.i64.wrap m.piece = m.piece) ∨ (m.part = -1 ∧ m.piece = 0)
  fs : U.fs = []
theorem ps_ext : ∀ (l1 l2 : List Pt), nms l1 = nms l2 → (nms l1).Nodup → (∀ x, look l1 x = look l2 x) → l1 = l2
  | [], [], _, _, _ => rfl
  | [], b :: l2, h, _, _ => by simp [nms] at h
  | a :: l1, [], h, _, _ => by simp [nms] at h
  | a :: l1, b :: l2, h, hn, hl => by
    have h1 : a.name = b.name := by simpa [nms] using (List.cons.inj h).1
    have h2 : nms l1 = nms l2 := (List.cons.inj h).2
    have ha : a.name ∉ nms l1 := (List.nodup_cons.1 hn).1
    have e := hl a.name
    rw [look_cons, look_cons, if_pos rfl, if_pos h1.symm] at e
    cases e
    congr 1
    refine ps_ext l1 l2 h2 (List.nodup_cons.1 hn).2 (fun x => ?_)
    have e := hl x
    rw [look_cons, look_cons] at e
    by_cases hx : a.name = x
    · subst hx; rw [look_none ha, look_none (by rw [← h2]; exact ha)]
    · rw [if_neg hx, if_neg hx] at e; exact e
theorem filter_look : ∀ (l : List Pt) (x : ByteArray), (nms l).Nodup → l.filter (fun p => decide (p.name = x)) = (look l x).toList
  | [], x, _ => rfl
  | a :: l, x, hn => by
    have ha : a.name ∉ nms l := (List.nodup_cons.1 hn).1
    rw [look_cons]
    by_cases hx : a.name = x
    · rw [List.filter_cons_of_pos (by simpa using hx), if_pos hx, filter_look l x (List.nodup_cons.1 hn).2, look_none (by rw [← hx]; exact ha)]; rfl
    · rw [List.filter_cons_of_neg (by simpa using hx), if_neg hx, filter_look l x (List.nodup_cons.1 hn).2]
theorem comb_assoc (l : List Pt) : ∀ a b : Option Pt, (l.foldl comb b).toList.foldl comb a = l.foldl comb (b.toList.foldl comb a) := by
  induction l with
  | nil => exact fun _ _ => rfl
  | cons p l ih =>
    intro a b
    show ((l.foldl comb (comb b p)).toList).foldl comb a = l.foldl comb (comb (b.toList.foldl comb a) p)
    rw [ih]
    congr 1
    cases b with
    | none => rfl
    | some q =>
      cases a with
      | none => rfl
      | some r => simp [comb, List.append_assoc]
theorem psum_zero {l : List Pt} (hn : (nms l).Nodup) {i : Nat} (hi : i < l.length) : psum (l.take i) l[i].name = 0 := by
  unfold psum
  rw [List.filter_eq_nil_iff.2]
  · rfl
  · intro p hp
    simp only [decide_eq_true_eq]
    intro e
    obtain ⟨j, hj, rfl⟩ := List.getElem_of_mem hp
    have hji : j < i := by simp at hj; omega
    rw [List.getElem_take] at e
    have := nodup_inj hn (i := j) (j := i) (by simp [nms]; omega) (by simp [nms]; omega) (by simpa [nms] using e)
    omega
/-- The two lists of a unit's parts behind another one. -/
theorem lists_at (S : FP) (hn : (nms S.ps).Nodup) (l : List Pt) {j : Nat} (hj : j < l.length) : ∃ i, idxO (exts (nms S.ps) (nms l)) l[j].name = some i ∧ natAt (joinParts (S, [], []) l).2.1 (j : Nat) = i ∧ natAt (joinParts (S, [], []) l).2.2 (j : Nat) = cntO (look S.ps l[j].name) + psum (l.take j) l[j].name := by
  obtain ⟨h1, h2, h3, h4, ⟨h5, h6⟩, h7⟩ := jps_all l (S, [], []) hn
  dsimp only at h1 h4
  have hm : l[j].name ∈ exts (nms S.ps) (nms l) := exts_mem2 _ (List.mem_map.2 ⟨_, List.getElem_mem hj, rfl⟩)
  obtain ⟨i, hi⟩ : ∃ i, idxO (exts (nms S.ps) (nms l)) l[j].name = some i := by
    cases e : idxO (exts (nms S.ps) (nms l)) l[j].name with
    | some i => exact ⟨i, rfl⟩
    | none => exact absurd hm (idxO_none_iff.1 e)
  refine ⟨i, hi, ?_, ?_⟩
  · unfold natAt
    rw [h4, h1]
    simp [hj, hi]
  · have := h6 j hj
    simp only [List.length_nil, Nat.zero_add] at this
    unfold natAt
    simp [List.getD, this]
theorem nms_len (l : List Pt) : (nms l).length = l.length := by simp [nms]
theorem nms_get (l : List Pt) (i : Nat) (hi : i < l.length) : (nms l)[i]'(by rw [nms_len]; exact hi) = l[i].name := by simp [nms]
theorem wrap_wrap (a b : Int) : IntKind.i64.wrap (IntKind.i64.wrap a + b) = IntKind.i64.wrap (a + b) := by
  unfold IntKind.wrap
  simp only [IntKind.bits, IntKind.signed, Bool.true_and, decide_eq_true_eq, ge_iff_le]
  repeat' split
  all_goals omega
theorem wrap_idem (a : Int) : IntKind.i64.wrap (IntKind.i64.wrap a) = IntKind.i64.wrap a := by
  have := wrap_wrap a 0
  rw [Int.add_zero, Int.add_zero] at this
  exact this
theorem ju_ps (S U : FP) : (S.joinUnit U).ps = (joinParts (S, [], []) U.ps).1.ps := rfl
theorem ju_fs (S U : FP) : (S.joinUnit U).fs = S.fs := (joinParts_ms U.ps (S, [], [])).2.2.1
theorem ju_names (S U : FP) (hn : (nms S.ps).Nodup) : nms (S.joinUnit U).ps = exts (nms S.ps) (nms U.ps) := (jps_all U.ps (S, [], []) hn).1
theorem ju_look (S U : FP) (hn : (nms S.ps).Nodup) (x : ByteArray) : look (S.joinUnit U).ps x = (U.ps.filter (fun p => decide (p.name = x))).foldl comb (look S.ps x) := (jps_all U.ps (S, [], []) hn).2.1 x
theorem ju_nd (S U : FP) (hn : (nms S.ps).Nodup) : (nms (S.joinUnit U).ps).Nodup := (jps_all U.ps (S, [], []) hn).2.2.1
/-- How a mark moves, in words of names. -/
theorem move_in (S U : FP) (hn : (nms S.ps).Nodup) (m : Mk) (h0 : 0 ≤ m.part) (h1 : m.part < U.ps.length) : ∃ (j : Nat) (hj : j < U.ps.length) (i : Nat), m.part = j ∧ idxO (exts (nms S.ps) (nms U.ps)) U.ps[j].name = some i ∧
    moveM (joinParts (S, [], []) U.ps).2.1 (joinParts (S, [], []) U.ps).2.2 m = { m with part := (i : Nat), piece := IntKind.i64.wrap (m.piece + ((cntO (look S.ps U.ps[j].name) + psum (U.ps.take j) U.ps[j].name : Nat) : Int)) } := by
  obtain ⟨j, hj⟩ : ∃ j : Nat, m.part = j := ⟨m.part.toNat, by omega⟩
  have hjl : j < U.ps.length := by omega
  obtain ⟨i, e1, e2, e3⟩ := lists_at S hn U.ps hjl
  have hlen : (joinParts (S, [], []) U.ps).2.1.length = U.ps.length := by have := (joinParts_ms U.ps (S, [], [])).2.2.2.1; simpa using this
  refine ⟨j, hjl, i, hj, e1, ?_⟩
  unfold moveM
  rw [if_pos ⟨h0, by rw [hlen]; exact h1⟩, hj, e2, e3]
theorem move_out (S U : FP) (m : Mk) (h : ¬ (0 ≤ m.part ∧ m.part < U.ps.length)) : moveM (joinParts (S, [], []) U.ps).2.1 (joinParts (S, [], []) U.ps).2.2 m = { m with part := -1, piece := 0 } := by
  have hlen : (joinParts (S, [], []) U.ps).2.1.length = U.ps.length := by have := (joinParts_ms U.ps (S, [], [])).2.2.2.1; simpa using this
  unfold moveM
  rw [if_neg (by rw [hlen]; exact h)]
theorem WF.join {T : FP} (h : WF T) (U : FP) : WF (T.joinUnit U) := by
  have hnd := ju_nd T U h.nd
  have hnm := ju_names T U h.nd
  obtain ⟨t, ht⟩ := exts_pre (nms U.ps) (nms T.ps)
  have hlen : T.ps.length ≤ (T.joinUnit U).ps.length := by
    have := congrArg List.length hnm
    rw [ht, nms_len, List.length_append, nms_len] at this
    omega
  refine ⟨hnd, fun m hm => ?_, by rw [ju_fs]; exact h.fs⟩
  rcases List.mem_append.1 (show m ∈ T.ms ++ U.ms.map _ from hm) with h1 | h1
  · rcases h.ms m h1 with ⟨a, b, c⟩ | h2
    · exact .inl ⟨a, by omega, c⟩
    · exact .inr h2
  · obtain ⟨q, -, rfl⟩ := List.mem_map.1 h1
    by_cases hq : 0 ≤ q.part ∧ q.part < U.ps.length
    · obtain ⟨j, hj, i, e1, e2, e3⟩ := move_in T U h.nd q hq.1 hq.2
      rw [e3]
      refine .inl ⟨by simp, ?_, wrap_idem _⟩
      have h3 := idxO_some e2
      rw [← hnm] at h3
      have := (List.getElem?_eq_some_iff.1 h3).1
      rw [nms_len] at this
      show (i : Int) < _
      omega
    · rw [move_out T U q hq]; exact .inr ⟨rfl, rfl⟩
theorem FP.ext4 {A B : FP} (h1 : A.ps = B.ps) (h2 : A.ms = B.ms) (h3 : A.gs = B.gs) (h4 : A.fs = B.fs) : A = B := by
  cases A; cases B; cases h1; cases h2; cases h3; cases h4; rfl
/-- Joining is associative. -/
theorem ju_assoc (S T U : FP) (hS : (nms S.ps).Nodup) (hT : WF T) : (S.joinUnit T).joinUnit U = S.joinUnit (T.joinUnit U) := by
  have n1 := ju_nd S T hS
  have n2 := ju_nd T U hT.nd
  have e1 : nms ((S.joinUnit T).joinUnit U).ps = exts (nms S.ps) (nms (T.joinUnit U).ps) := by
    rw [ju_names _ _ n1, ju_names _ _ hS, ju_names _ _ hT.nd, exts_assoc]
  obtain ⟨t, ht⟩ := exts_pre (nms U.ps) (nms (S.joinUnit T).ps)
  have hTU : ∃ t, nms (T.joinUnit U).ps = nms T.ps ++ t := by rw [ju_names _ _ hT.nd]; exact exts_pre _ _
  obtain ⟨t2, ht2⟩ := hTU
  have hlTU : T.ps.length ≤ (T.joinUnit U).ps.length := by
    have := congrArg List.length ht2
    rw [nms_len, List.length_append, nms_len] at this
    omega
  have hlook : ∀ x, look (S.joinUnit T).ps x = (look T.ps x).toList.foldl comb (look S.ps x) := fun x => by rw [ju_look _ _ hS, filter_look _ _ hT.nd]
  have hcnt : ∀ x, cntO (look (S.joinUnit T).ps x) = cntO (look S.ps x) + cntO (look T.ps x) := fun x => by
    rw [hlook, cnt_foldl]
    cases look T.ps x <;> simp [cntO]
  refine FP.ext4 (ps_ext _ _ ?_ ?_ (fun x => ?_)) ?_ ?_ ?_
  · rw [e1, ju_names _ _ hS]
  · exact ju_nd _ _ n1
  · rw [ju_look _ _ n1, hlook, ju_look _ _ hS, filter_look _ _ n2, ju_look _ _ hT.nd, comb_assoc]
  · show (S.ms ++ T.ms.map _) ++ U.ms.map _ = S.ms ++ (T.ms ++ U.ms.map _).map _
    rw [List.append_assoc, List.map_append, List.map_map]
    congr 1
    congr 1
    · refine List.map_congr_left (fun m hm => ?_)
      rcases hT.ms m hm with ⟨a, b, c⟩ | ⟨a, b⟩
      · obtain ⟨j, hj, i, q1, q2, q3⟩ := move_in S T hS m a b
        obtain ⟨j', hj', i', r1, r2, r3⟩ := move_in S (T.joinUnit U) hS m a (by omega)
        have hjj : j' = j := by omega
        subst hjj
        have hname : (T.joinUnit U).ps[j'].name = T.ps[j'].name := by
          rw [← nms_get _ _ hj', ← nms_get _ _ hj]
          simp only [ht2]
          rw [List.getElem_append_left (by rw [nms_len]; exact hj)]
        rw [q3, r3]
        have hi : i = i' := by
          rw [hname] at r2
          have hmem : T.ps[j'].name ∈ nms (S.joinUnit T).ps := by rw [ju_names _ _ hS]; exact exts_mem2 _ (List.mem_map.2 ⟨_, List.getElem_mem hj, rfl⟩)
          rw [← e1, ju_names _ _ n1, ht, idxO_app hmem, ju_names _ _ hS, q2] at r2
          exact Option.some.inj r2
        rw [hi, psum_zero hT.nd hj, psum_zero n2 hj', hname]
      · rw [move_out S T m (by omega), move_out S _ m (by omega)]
    · refine List.map_congr_left (fun m hm => ?_)
      show moveM _ _ m = moveM _ _ (moveM _ _ m)
      by_cases hq : 0 ≤ m.part ∧ m.part < U.ps.length
      · obtain ⟨j, hj, i, q1, q2, q3⟩ := move_in (S.joinUnit T) U n1 m hq.1 hq.2
        obtain ⟨j2, hj2, i2, p1, p2, p3⟩ := move_in T U hT.nd m hq.1 hq.2
        have hjj : j2 = j := by omega
        subst hjj
        rw [q3, p3]
        have hi2l := idxO_some p2
        rw [← ju_names _ _ hT.nd] at hi2l
        obtain ⟨hi2, hi2n⟩ := List.getElem?_eq_some_iff.1 hi2l
        rw [nms_len] at hi2
        rw [nms_get _ _ hi2] at hi2n
        obtain ⟨j3, hj3, i3, s1, s2, s3⟩ := move_in S (T.joinUnit U) hS { m with part := (i2 : Nat), piece := IntKind.i64.wrap (m.piece + ((cntO (look T.ps U.ps[j2].name) + psum (U.ps.take j2) U.ps[j2].name : Nat) : Int)) } (by simp) (by show (i2 : Int) < _; omega)
        have hj3' : j3 = i2 := by have : (i2 : Int) = j3 := s1; omega
        subst hj3'
        rw [s3]
        rw [hi2n] at s2 ⊢
        have hi : i = i3 := by
          rw [← ju_names _ _ n1, e1, s2] at q2
          exact (Option.some.inj q2).symm
        have hz := psum_zero n2 hi2
        rw [hi2n] at hz
        rw [hi, hcnt, hz, wrap_wrap]
        congr 2
        omega
      · rw [move_out _ _ m hq, move_out T U m hq, move_out S _ _ (by show ¬ (0 ≤ (-1 : Int) ∧ _); omega)]
  · show (S.gs ++ T.gs) ++ U.gs = S.gs ++ (T.gs ++ U.gs)
    rw [List.append_assoc]
  · rw [ju_fs, ju_fs, ju_fs]
theorem nil_join {U : FP} (h : WF U) : FP.nil.joinUnit U = U := by
  have hn : (nms FP.nil.ps).Nodup := by simp [FP.nil, nms]
  have e1 : nms (FP.nil.joinUnit U).ps = nms U.ps := by
    rw [ju_names _ _ hn]
    show exts [] (nms U.ps) = _
    rw [exts_nil _ _ (by simpa using h.nd)]; rfl
  refine FP.ext4 (ps_ext _ _ e1 (by rw [e1]; exact h.nd) (fun x => ?_)) ?_ rfl (by rw [ju_fs, h.fs]; rfl)
  · rw [ju_look _ _ hn, filter_look _ _ h.nd]
    show (look U.ps x).toList.foldl comb none = _
    cases look U.ps x <;> rfl
  · show [] ++ U.ms.map _ = U.ms
    rw [List.nil_append]
    conv => rhs; rw [← List.map_id U.ms]
    refine List.map_congr_left (fun m hm => ?_)
    rcases h.ms m hm with ⟨a, b, c⟩ | ⟨a, b⟩
    · obtain ⟨j, hj, i, q1, q2, q3⟩ := move_in FP.nil U hn m a b
      have hi : i = j := by
        have h2 : exts (nms FP.nil.ps) (nms U.ps) = nms U.ps := by rw [← ju_names _ _ hn, e1]
        rw [h2] at q2
        have := idxO_nodup h.nd (i := j) (by rw [nms_len]; exact hj)
        rw [nms_get _ _ hj, q2] at this
        exact Option.some.inj this
      rw [q3, hi, psum_zero h.nd hj]
      have hz : cntO (look FP.nil.ps U.ps[j].name) = 0 := rfl
      rw [hz]
      obtain ⟨m1, m2, m3, m4, m5, m6, m7⟩ := m
      have q1 : m4 = (j : Int) := q1
      have c : IntKind.i64.wrap m5 = m5 := c
      subst q1
      simp [c]
    · rw [move_out _ _ m (by omega)]
      obtain ⟨m1, m2, m3, m4, m5, m6, m7⟩ := m
      have a : m4 = -1 := a
      have b : m5 = 0 := b
      subst a b
      rfl
theorem join_nil {S : FP} : S.joinUnit FP.nil = S := by
  unfold FP.joinUnit
  refine FP.ext4 rfl ?_ ?_ rfl
  · show S.ms ++ [] = _; simp
  · show S.gs ++ [] = _; simp
theorem wf_nil : WF FP.nil := ⟨by simp [FP.nil, nms], fun m hm => by simp [FP.nil] at hm, rfl⟩
theorem wf_fold (l : List FP) : ∀ {S : FP}, WF S → WF (l.foldl FP.joinUnit S) := by
  induction l with
  | nil => exact fun h => h
  | cons u l ih => exact fun h => ih (h.join u)
theorem wf_join (l : List FP) : WF (joinP l) := wf_fold l wf_nil
theorem join_fold (l : List FP) (S : FP) (hS : WF S) : S.joinUnit (joinP l) = l.foldl FP.joinUnit S := by
  have key : ∀ (l : List FP) (T : FP), WF T → S.joinUnit (l.foldl FP.joinUnit T) = l.foldl FP.joinUnit (S.joinUnit T) := by
    intro l
    induction l with
    | nil => exact fun _ _ => rfl
    | cons u l ih =>
      intro T hT
      rw [List.foldl_cons, List.foldl_cons, ih _ (hT.join u), ju_assoc S T u hS.nd hT]
  unfold joinP
  rw [key l FP.nil wf_nil, join_nil]
/-- In groups. -/
theorem join_groups (a b : List FP) : joinP [joinP a, joinP b] = joinP (a ++ b) := by
  show (FP.nil.joinUnit (joinP a)).joinUnit (joinP b) = _
  rw [nil_join (wf_join a), join_fold b _ (wf_join a)]
  unfold joinP
  rw [List.foldl_append]
theorem join_again (a : List FP) : joinP [joinP a] = joinP a := nil_join (wf_join a)
end Go.Proofs.Ythlingholhjcnaa
