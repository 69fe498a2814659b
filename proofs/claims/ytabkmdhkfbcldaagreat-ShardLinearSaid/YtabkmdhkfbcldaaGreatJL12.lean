/-
 ShardFirst: what its walk wants of the run.
 The table in plain words: the calls could have come one by one.
 The table in plain words: a step keeps the order of the calls.
 The table in plain words: every step keeps an order of the calls.
 The table in plain words: its history may be, and is legal one by one.
 The table in plain words: every step keeps a history that may be.
 The table in plain words: every history that a run reaches is legal one by one.
 What the code's parts come to: split, row, keys, find.
 The document's parts in plain words: names and values as a list of pairs; steps; an order that is legal passes.
 Calls as the walks have them; ahead; which calls may be.
 The map of the workers' calls in Check.
 Sorting a row of the call's own: what it is behind it.
 The two sorts: calls by their beginnings, numbers by their calls' beginnings.
-/
import Derived.Test.YtabkmdhkfbcldaaGreatJL11
import Derived.Test.YtabkmdhkfbcldaaGreatJL1
import Derived.Test.YtabkmdhkfbcldaaGreatJL0
import Derived.Test.YtabkmdhkfbcldaaGreatProg
import Derived.Test.YtabkmdhkfbcldaaGreatJL2
import Derived.Deep.RegionHeld3
import Derived.Test.YtabkmdhkfbcldaaGreatShelf
import Derived.BigQuiet
namespace Go.Proofs.YtabkmdhkfbcldaaGreat
open Go.RowKit
variable {w w' : World}
def wkOf (zs : List AkR) (n : Int) : Wk := ⟨lists zs, n.toNat, ofK n.toNat⟩
theorem wkOf_ok {zs : List AkR} {p : Nat} (h : FewOk zs p) {n : Int} (hn : newTE n (lists zs) = 0) : WkOk (wkOf zs n) := by
 obtain ⟨h1, h2, h3, h4, h5, h6⟩ := h.few hn
 have hl : (lists zs).length = zs.length := by simp [lists]
 refine ⟨(by show 1 ≤ n.toNat ∧ n.toNat ≤ 256; omega), (by show 1 ≤ (lists zs).length ∧ (lists zs).length ≤ 64; omega), fun k => ofK_is n.toNat (by omega) k, fun v a ha => ?_⟩
 unfold Wk.own at ha
 rw [List.getD_eq_getElem?_getD] at ha
 cases e : (wkOf zs n).work[v]? with
 | none => rw [e] at ha; cases ha
 | some l =>
  rw [e] at ha
  have := h5 l (List.mem_of_getElem? e) a ha
  omega
theorem wkOf_new {zs : List AkR} {n : Int} (h : ¬ (n < 1 ∨ 256 < n ∨ zs.length < 1 ∨ 64 < zs.length)) : NewK zs n (wkOf zs n) := ⟨rfl, by show ((n.toNat : Nat) : Int) = n; omega⟩
theorem wkOf_kinds {zs : List AkR} {p : Nat} (h : FewOk zs p) {n : Int} (hn : newTE n (lists zs) = 0) : ∀ v, ∀ a ∈ (wkOf zs n).own v, 1 ≤ a.kind ∧ a.kind ≤ 3 := fun v a ha => by
 obtain ⟨h1, h2, h3, h4, h5, h6⟩ := h.few hn
 unfold Wk.own at ha
 rw [List.getD_eq_getElem?_getD] at ha
 cases e : (wkOf zs n).work[v]? with
 | none => rw [e] at ha; cases ha
 | some l =>
  rw [e] at ha
  have := h6 l (List.mem_of_getElem? e)
  rw [List.any_eq_false] at this
  have hb := this a ha
  unfold akBad at hb
  simp at hb
  omega
theorem wkOf_run {zs : List AkR} {p : Nat} (h : FewOk zs p) {n : Int} (hn : newTE n (lists zs) = 0) : RunOk (wkOf zs n) 360 (Sh.start (wkOf zs n)) := by
 obtain ⟨h1, h2, h3, h4, h5, h6⟩ := h.few hn
 refine ⟨start_ok _, ?_⟩
 rw [start_left]
 show 0 + 6 * totA (lists zs) ≤ 360
 omega
theorem wkOf_own {zs : List AkR} {p : Nat} (h : FewOk zs p) {n : Int} (hn : newTE n (lists zs) = 0) (k : Nat) : ((wkOf zs n).own k).length ≤ 60 := own_le _ 60 (h.few hn).2.2.2.1 k
end Go.Proofs.YtabkmdhkfbcldaaGreat
namespace Go.Proofs.YtabkmdhkfbcldaaGreat
open Go.RowKit
variable {K : Wk} {S : Sh}
def effB (a : Ak) (h : Hn) : Bool := (decide (h.at_ = 3)) || (decide (h.at_ = 4) && (h.found || decide (a.kind ≠ 3)))
def stAhead (l : List Cl) (o : List Nat) (j : Nat) : Option Int := lastF (fun _ => none) ((o.takeWhile (fun i => decide (i ≠ j))).map (cAt l)) (cAt l j).key
structure LOk (K : Wk) (S : Sh) (o : List Nat) : Prop where
 nd : o.Nodup
 lt : ∀ j ∈ o, j < S.calls.length
 ended : ∀ j, j < S.calls.length → (cAt S.calls j).to ≠ -1 → j ∈ o
 opn : ∀ w, w < K.work.length → (S.hand w).at_ ≠ 0 → ((S.hand w).call ∈ o ↔ effB (S.ask K w) (S.hand w) = true)
 steps : stepsF (fun _ => none) (o.map (cAt S.calls)) = true
 last : lastF (fun _ => none) (o.map (cAt S.calls)) = S.get
 rt : RT S.calls o
 fr : ∀ j, j < S.calls.length → (cAt S.calls j).fr ≤ S.steps
 st : ∀ w, w < K.work.length → (S.hand w).at_ ≠ 0 → (S.hand w).call ∈ o → ((S.hand w).found = false → stAhead S.calls o (S.hand w).call = none) ∧ ((S.hand w).found = true → stAhead S.calls o (S.hand w).call = S.get (S.ask K w).key ∧ S.get (S.ask K w).key ≠ none)
theorem start_l (K : Wk) : LOk K (Sh.start K) [] := by
 have hh : ∀ v, ((Sh.start K).hand v) = hn0 := fun v => getD_rep _ _ _
 refine ⟨List.nodup_nil, fun j hj => (by cases hj), fun j hj => (by cases hj), fun w _ h => ?_, rfl, ?_, List.Pairwise.nil, fun j hj => (by cases hj), fun w _ h => ?_⟩
 ·rw [hh] at h; exact absurd rfl h
 ·funext k; rfl
 ·rw [hh] at h; exact absurd rfl h
def SameC (a b : Cl) : Prop := a.kind = b.kind ∧ a.key = b.key ∧ a.value = b.value
theorem apply_same {a b : Cl} (h : SameC a b) (st : Option Int) : applyC a st = applyC b st := by
 obtain ⟨h1, h2, h3⟩ := h
 cases st with
 | none => simp only [applyC, h1, h3]
 | some v => simp only [applyC, h1]
theorem last_congr {f g : Nat → Cl} : ∀ (o : List Nat) (m : ByteArray → Option Int), (∀ i ∈ o, SameC (f i) (g i)) → lastF m (o.map f) = lastF m (o.map g)
 | [], _, _ => rfl
 | i :: o, m, h => by
  have hi := h i (List.mem_cons_self ..)
  show lastF (setF m (f i).key (applyC (f i) (m (f i).key)).2.2.1) (o.map f) = lastF (setF m (g i).key (applyC (g i) (m (g i).key)).2.2.1) (o.map g)
  rw [apply_same hi, hi.2.1]
  exact last_congr o _ (fun j hj => h j (List.mem_cons_of_mem _ hj))
theorem steps_change {f g : Nat → Cl} (j : Nat) (hs : ∀ i, i ≠ j → g i = f i) (hj : SameC (g j) (f j)) : ∀ (o : List Nat) (m : ByteArray → Option Int), o.Nodup →
  (j ∈ o → stepOk (g j) (lastF m ((o.takeWhile (fun i => decide (i ≠ j))).map f) (f j).key) = true) → stepsF m (o.map f) = true → stepsF m (o.map g) = true
 | [], _, _, _, _ => rfl
 | i :: o, m, hn, hok, h => by
  have hn' := List.nodup_cons.1 hn
  have h : (stepOk (f i) (m (f i).key) && stepsF (setF m (f i).key (applyC (f i) (m (f i).key)).2.2.1) (o.map f)) = true := h
  rw [Bool.and_eq_true] at h
  show (stepOk (g i) (m (g i).key) && stepsF (setF m (g i).key (applyC (g i) (m (g i).key)).2.2.1) (o.map g)) = true
  rw [Bool.and_eq_true]
  by_cases e : i = j
  ·subst e
   have h1 := hok (List.mem_cons_self ..)
   have et : (i :: o).takeWhile (fun k => decide (k ≠ i)) = [] := by simp
   rw [et] at h1
   refine ⟨by rw [hj.2.1]; exact h1, ?_⟩
   rw [apply_same hj, hj.2.1]
   exact steps_change i hs hj o _ hn'.2 (fun hm => absurd hm hn'.1) h.2
  ·rw [hs i e]
   refine ⟨h.1, steps_change j hs hj o _ hn'.2 (fun hm => ?_) h.2⟩
   have h1 := hok (List.mem_cons_of_mem _ hm)
   have et : (i :: o).takeWhile (fun k => decide (k ≠ j)) = i :: o.takeWhile (fun k => decide (k ≠ j)) := by simp [e]
   rw [et] at h1
   exact h1
theorem ahead_new (l : List Cl) (o : List Nat) (j : Nat) (h : j ∉ o) : stAhead l (o ++ [j]) j = lastF (fun _ => none) (o.map (cAt l)) (cAt l j).key := by
 have e : (o ++ [j]).takeWhile (fun i => decide (i ≠ j)) = o := by
  induction o with
  | nil => simp
  | cons a o ih =>
   have h1 : a ≠ j := fun e => h (e ▸ List.mem_cons_self ..)
   have h2 : j ∉ o := fun hm => h (List.mem_cons_of_mem _ hm)
   simp only [List.cons_append, List.takeWhile_cons, decide_eq_true h1, if_true]
   rw [ih h2]
 unfold stAhead
 rw [e]
theorem ahead_old (l : List Cl) (o : List Nat) (i j : Nat) (h : i ∈ o) : stAhead l (o ++ [j]) i = stAhead l o i := by
 have e : (o ++ [j]).takeWhile (fun k => decide (k ≠ i)) = o.takeWhile (fun k => decide (k ≠ i)) := by
  induction o with
  | nil => cases h
  | cons a o ih =>
   by_cases e : a = i
   ·subst e; simp
   ·have h2 : i ∈ o := by
     rcases List.mem_cons.1 h with h | h
     ·exact absurd h.symm e
     ·exact h
    simp only [List.cons_append, List.takeWhile_cons, decide_eq_true e, if_true]
    rw [ih h2]
 unfold stAhead
 rw [e]
end Go.Proofs.YtabkmdhkfbcldaaGreat
namespace Go.Proofs.YtabkmdhkfbcldaaGreat
open Go.RowKit
variable {K : Wk} {S : Sh}
theorem LOk.same {o : List Nat} (h : LOk K S o) (S' : Sh) (w : Nat) (hw : w < S.hands.length) (hwl : w < K.work.length) (x : Hn) (hh : S'.hands = S.hands.set w x) (hn : S'.next = S.next) (hc : S'.calls = S.calls) (hg : S'.get = S.get) (hst : S.steps ≤ S'.steps)
  (hx : x.call = (S.hand w).call) (h0 : (S.hand w).at_ ≠ 0) (he : effB (S.ask K w) x = effB (S.ask K w) (S.hand w)) (hf : effB (S.ask K w) x = true → x.found = (S.hand w).found) : LOk K S' o := by
 have hk := hand_set S' w x hw hh
 have ha : ∀ v, S'.ask K v = S.ask K v := fun v => by unfold Sh.ask; rw [hn]
 refine ⟨h.nd, by rw [hc]; exact h.lt, by rw [hc]; exact h.ended, fun v hv h1 => ?_, by rw [hc]; exact h.steps, by rw [hc, hg]; exact h.last, by rw [hc]; exact h.rt, by rw [hc]; exact fun j hj => Int.le_trans (h.fr j hj) (by omega), fun v hv h1 hm => ?_⟩
 ·rw [hk] at h1 ⊢
  rw [ha]
  by_cases e : v = w
  ·subst e; rw [if_pos rfl, hx, he]; exact h.opn v hv h0
  ·rw [if_neg e] at h1 ⊢; exact h.opn v hv h1
 ·rw [hk] at h1 hm ⊢
  rw [ha, hc, hg]
  by_cases e : v = w
  ·subst e
   rw [if_pos rfl] at hm ⊢
   rw [hx] at hm ⊢
   have heff := (h.opn v hv h0).1 hm
   rw [hf (by rw [he]; exact heff)]
   exact h.st v hv h0 hm
  ·rw [if_neg e] at h1 hm ⊢; exact h.st v hv h1 hm
theorem LOk.begun {o : List Nat} (h : LOk K S o) (w : Nat) (hw : w < S.hands.length) (S' : Sh) (c : Cl) (hh : S'.hands = S.hands.set w ⟨1, false, S.calls.length⟩) (hn : S'.next = S.next) (hc : S'.calls = S.calls ++ [c]) (hg : S'.get = S.get) (hst : S'.steps = S.steps + 1) (hto : c.to = -1) (hfr : c.fr = S.steps)
  (hin : ∀ v, v < K.work.length → (S.hand v).at_ ≠ 0 → (S.hand v).call < S.calls.length) : LOk K S' o := by
 have hk := hand_set S' w _ hw hh
 have ha : ∀ v, S'.ask K v = S.ask K v := fun v => by unfold Sh.ask; rw [hn]
 have hca : ∀ j, j < S.calls.length → cAt S'.calls j = cAt S.calls j := fun j hj => by rw [hc, cAt_app, if_pos hj]
 have hmap : ∀ q : List Nat, (∀ j ∈ q, j < S.calls.length) → q.map (cAt S'.calls) = q.map (cAt S.calls) := fun q hq => List.map_congr_left fun j hj => hca j (hq j hj)
 have hnew : S.calls.length ∉ o := fun hm => by have := h.lt _ hm; omega
 have hah : ∀ j, j ∈ o → stAhead S'.calls o j = stAhead S.calls o j := fun j hj => by
  unfold stAhead
  rw [hmap _ (fun i hi => h.lt i ((List.takeWhile_sublist _).subset hi)), hca j (h.lt j hj)]
 refine ⟨h.nd, fun j hj => ?_, fun j hj h1 => ?_, fun v hv h1 => ?_, by rw [hmap o h.lt]; exact h.steps, by rw [hmap o h.lt, hg]; exact h.last, ?_, fun j hj => ?_, fun v hv h1 hm => ?_⟩
 ·rw [hc, List.length_append]; have := h.lt j hj; omega
 ·rw [hc, List.length_append] at hj
  simp at hj
  by_cases e : j < S.calls.length
  ·rw [hca j e] at h1; exact h.ended j e h1
  ·have e2 : j = S.calls.length := by omega
   rw [hc, cAt_app, if_neg e, if_pos e2] at h1
   exact absurd hto h1
 ·rw [hk] at h1 ⊢
  rw [ha]
  by_cases e : v = w
  ·rw [if_pos e]
   simp only [effB]
   exact ⟨fun hm => absurd hm hnew, fun hb => by simp at hb⟩
  ·rw [if_neg e] at h1 ⊢; exact h.opn v hv h1
 ·unfold RT
  refine h.rt.imp_of_mem fun {a b} hma hmb hab => ?_
  rw [hca a (h.lt a hma), hca b (h.lt b hmb)]; exact hab
 ·rw [hc, List.length_append] at hj
  simp at hj
  by_cases e : j < S.calls.length
  ·rw [hca j e, hst]; have := h.fr j e; omega
  ·have e2 : j = S.calls.length := by omega
   rw [hc, cAt_app, if_neg e, if_pos e2, hst, hfr]; omega
 ·rw [hk] at h1 hm ⊢
  rw [ha, hg]
  by_cases e : v = w
  ·rw [if_pos e] at hm
   exact absurd hm hnew
  ·rw [if_neg e] at h1 hm ⊢
   rw [hah _ hm]; exact h.st v hv h1 hm
theorem LOk.effect {o : List Nat} (h : LOk K S o) (w : Nat) (hw : w < S.hands.length) (hwl : w < K.work.length) (S' : Sh) (x : Hn) (j : Nat) (hh : S'.hands = S.hands.set w x) (hn : S'.next = S.next) (hc : S'.calls = S.calls) (hst : S.steps ≤ S'.steps)
  (hxj : x.call = j) (hjl : j < S.calls.length) (hno : j ∉ o) (he : effB (S.ask K w) x = true) (hto : (cAt S.calls j).to = -1) (hsame : (cAt S.calls j).key = (S.ask K w).key)
  (hg : S'.get = setF S.get (cAt S.calls j).key (applyC (cAt S.calls j) (S.get (cAt S.calls j).key)).2.2.1) (hok : (applyC (cAt S.calls j) (S.get (cAt S.calls j).key)).2.2.2 = true)
  (hmono : ∀ k v, S.get k = some v → S'.get k = some v) (hf0 : x.found = false → S.get (S.ask K w).key = none) (hf1 : x.found = true → S.get (S.ask K w).key ≠ none)
  (hone : ∀ v, v < K.work.length → v ≠ w → (S.hand v).at_ ≠ 0 → (S.hand v).call ≠ j) : LOk K S' (o ++ [j]) := by
 have hk := hand_set S' w x hw hh
 have ha : ∀ v, S'.ask K v = S.ask K v := fun v => by unfold Sh.ask; rw [hn]
 have hmapL : (o ++ [j]).map (cAt S.calls) = o.map (cAt S.calls) ++ [cAt S.calls j] := by rw [List.map_append]; rfl
 refine ⟨?_, fun i hi => ?_, fun i hi h1 => ?_, fun v hv h1 => ?_, ?_, ?_, ?_, by rw [hc]; exact fun i hi => Int.le_trans (h.fr i hi) (by omega), fun v hv h1 hm => ?_⟩
 ·rw [List.nodup_append]
  exact ⟨h.nd, by simp, fun a hma b hb e => by simp at hb; subst hb; exact hno (e ▸ hma)⟩
 ·rw [hc]
  rcases List.mem_append.1 hi with hi | hi
  ·exact h.lt i hi
  ·simp at hi; omega
 ·rw [hc] at hi h1
  exact List.mem_append_left _ (h.ended i hi h1)
 ·rw [hk] at h1 ⊢
  rw [ha]
  by_cases e : v = w
  ·subst e; rw [if_pos rfl, hxj]; exact ⟨fun _ => he, fun _ => by simp⟩
  ·rw [if_neg e] at h1 ⊢
   rw [← h.opn v hv h1]
   have := hone v hv e h1
   simp [this]
 ·rw [hc, hmapL, steps_snoc, h.steps, h.last]
  unfold stepOk
  rw [hok, hto]; rfl
 ·rw [hc, hmapL, last_snoc, h.last, hg]
 ·unfold RT
  rw [hc, List.pairwise_append]
  refine ⟨h.rt, by simp, fun a hma b hb => ?_⟩
  simp at hb; subst hb
  rw [ahead_no]
  intro hne; exact absurd hto hne
 ·rw [hk] at h1 hm ⊢
  rw [ha, hc]
  by_cases e : v = w
  ·subst e
   rw [if_pos rfl, hxj, ahead_new _ _ _ hno, h.last, hsame]
   refine ⟨hf0, fun hf => ?_⟩
   cases hgv : S.get (S.ask K v).key with
   | none => exact absurd hgv (hf1 hf)
   | some y => rw [hmono _ _ hgv]; exact ⟨rfl, by simp⟩
  ·rw [if_neg e] at h1 hm ⊢
   have hmo : (S.hand v).call ∈ o := by
    rcases List.mem_append.1 hm with hm | hm
    ·exact hm
    ·simp at hm; exact absurd hm (hone v hv e h1)
   rw [ahead_old _ _ _ _ hmo]
   obtain ⟨s1, s2⟩ := h.st v hv h1 hmo
   refine ⟨s1, fun hf => ?_⟩
   obtain ⟨t1, t2⟩ := s2 hf
   cases hgv : S.get (S.ask K v).key with
   | none => exact absurd hgv t2
   | some y => rw [t1, hgv, hmono _ _ hgv]; exact ⟨rfl, by simp⟩
theorem LOk.ended_ok {o : List Nat} (h : LOk K S o) (w : Nat) (hw : w < S.hands.length) (hwl : w < K.work.length) (hnl : w < S.next.length) (S' : Sh) (j : Nat) (c : Cl) (hh : S'.hands = S.hands.set w hn0) (hn : S'.next = S.next.set w (S.next.getD w 0 + 1)) (hjc : (S.hand w).call = j) (hjl : j < S.calls.length)
  (hc : S'.calls = S.calls.set j c) (hg : S'.get = S.get) (hst : S'.steps = S.steps + 1) (hto : c.to = S.steps + 1) (hsm : SameC c (cAt S.calls j)) (hfr : c.fr = (cAt S.calls j).fr) (hjo : j ∈ o)
  (hok : stepOk c (stAhead S.calls o j) = true) (hone : ∀ v, v < K.work.length → v ≠ w → (S.hand v).at_ ≠ 0 → (S.hand v).call ≠ j) : LOk K S' o := by
 have hk := hand_set S' w hn0 hw hh
 have ha : ∀ v, v ≠ w → S'.ask K v = S.ask K v := fun v hv => by unfold Sh.ask; rw [hn, getD_set _ _ hnl, if_neg hv]
 have hcs : ∀ i, i ≠ j → cAt S'.calls i = cAt S.calls i := fun i hi => by rw [hc, cAt_set _ _ _ _ hjl, if_neg hi]
 have hcj : cAt S'.calls j = c := by rw [hc, cAt_set _ _ _ _ hjl, if_pos rfl]
 have hlen : S'.calls.length = S.calls.length := by rw [hc, List.length_set]
 have hsame : ∀ i, SameC (cAt S'.calls i) (cAt S.calls i) := fun i => by
  by_cases e : i = j
  ·subst e; rw [hcj]; exact hsm
  ·rw [hcs i e]; exact ⟨rfl, rfl, rfl⟩
 have hfrr : ∀ i, (cAt S'.calls i).fr = (cAt S.calls i).fr := fun i => by
  by_cases e : i = j
  ·subst e; rw [hcj]; exact hfr
  ·rw [hcs i e]
 have hah : ∀ i, stAhead S'.calls o i = stAhead S.calls o i := fun i => by
  unfold stAhead
  rw [last_congr _ _ (fun q _ => hsame q), (hsame i).2.1]
 refine ⟨h.nd, fun i hi => by rw [hlen]; exact h.lt i hi, fun i hi h1 => ?_, fun v hv h1 => ?_, ?_, ?_, ?_, fun i hi => ?_, fun v hv h1 hm => ?_⟩
 ·rw [hlen] at hi
  by_cases e : i = j
  ·subst e; exact hjo
  ·rw [hcs i e] at h1; exact h.ended i hi h1
 ·rw [hk] at h1 ⊢
  by_cases e : v = w
  ·rw [if_pos e] at h1; exact absurd rfl h1
  ·rw [if_neg e] at h1 ⊢; rw [ha v e]; exact h.opn v hv h1
 ·refine steps_change j hcs (hsame j) o _ h.nd (fun _ => ?_) h.steps
  rw [hcj]; exact hok
 ·rw [last_congr _ _ (fun q _ => hsame q), h.last, hg]
 ·unfold RT
  refine h.rt.imp_of_mem fun {a b} hma hmb hab => ?_
  rw [ahead_no] at hab ⊢
  rw [hfrr a]
  intro hne
  by_cases e : b = j
  ·subst e
   rw [hcj, hto]
   have := h.fr a (h.lt a hma)
   omega
  ·rw [hcs b e] at hne ⊢; exact hab hne
 ·rw [hlen] at hi
  rw [hfrr, hst]
  have := h.fr i hi; omega
 ·rw [hk] at h1 hm ⊢
  by_cases e : v = w
  ·rw [if_pos e] at h1; exact absurd rfl h1
  ·rw [if_neg e] at h1 hm ⊢
   rw [ha v e, hg, hah]; exact h.st v hv h1 hm
end Go.Proofs.YtabkmdhkfbcldaaGreat
namespace Go.Proofs.YtabkmdhkfbcldaaGreat
open Go.RowKit
variable {K : Wk} {S : Sh}
theorem setF_get (m : ByteArray → Option Int) (k : ByteArray) (v : Option Int) (h : m k = v) : setF m k v = m := by
 funext j
 unfold setF
 by_cases e : j = k
 ·rw [if_pos e, e, h]
 ·rw [if_neg e]
theorem LOk.step (HKD : ∀ v, ∀ a ∈ K.own v, 1 ≤ a.kind ∧ a.kind ≤ 3) (ho : ShOk K S) (hC : CallOk K S) (h : ∃ o, LOk K S o) (w : Nat) (hc : S.canN K w = true) : ∃ o, LOk K (S.stepN K w) o := by
 have hw := can_lt hc
 obtain ⟨o, hL⟩ := h
 have H := ho.each w hw
 have hnl : w < S.next.length := by rw [ho.nxl]; exact hw
 have hhl : w < S.hands.length := by rw [ho.hnl]; exact hw
 have h5 : (S.hand w).at_ ≤ 5 := by
  by_cases h0 : (S.hand w).at_ = 0
  ·omega
  ·exact (H.inh h0).2.2
 have hin : ∀ v, v < K.work.length → (S.hand v).at_ ≠ 0 → (S.hand v).call < S.calls.length := fun v hv h0 => ((ho.each v hv).inh h0).2.1
 have hkd : 1 ≤ (S.ask K w).kind ∧ (S.ask K w).kind ≤ 3 := by
  have hnx := ho.nx hw (can_facts hc).1
  refine HKD w _ ?_
  unfold Sh.ask
  rw [List.getD_eq_getElem?_getD, List.getElem?_eq_getElem hnx]
  exact List.getElem_mem hnx
 have hone : (S.hand w).at_ ≠ 0 → ∀ v, v < K.work.length → v ≠ w → (S.hand v).at_ ≠ 0 → (S.hand v).call ≠ (S.hand w).call := fun h0 v hv hne hv0 e => hne (hC.one hv hw hv0 h0 e)
 rw [step_is hc]
 unfold Sh.body
 dsimp only
 rcases (show (S.hand w).at_ = 0 ∨ (S.hand w).at_ = 1 ∨ (S.hand w).at_ = 2 ∨ (S.hand w).at_ = 3 ∨ (S.hand w).at_ = 4 ∨ (S.hand w).at_ = 5 by omega) with e | e | e | e | e | e <;> simp only [e]
 ·exact ⟨o, hL.begun w hhl _ _ rfl rfl rfl rfl rfl rfl rfl hin⟩
 ·obtain ⟨fr, hcw⟩ := hC.hand w hw (by omega)
  have hnot : (S.hand w).call ∉ o := fun hm => by
   have := (hL.opn w hw (by omega)).1 hm
   unfold effB at this; rw [e] at this; simp at this
  have hb : effB (S.ask K w) (S.hand w) = false := by unfold effB; rw [e]; simp
  by_cases hk : (S.ask K w).kind = 1 ∧ S.get (S.ask K w).key = none
  ·rw [if_pos hk]
   refine ⟨o, hL.same _ w hhl hw ⟨2, (S.get (S.ask K w).key).isSome, (S.hand w).call⟩ rfl rfl rfl rfl (Nat.le_succ _) rfl (by omega) (by rw [hb]; simp [effB]) (fun hx => by simp [effB] at hx)⟩
  ·rw [if_neg hk]
   cases hg : S.get (S.ask K w).key with
   | some v =>
    refine ⟨o ++ [(S.hand w).call], hL.effect w hhl hw _ ⟨4, true, (S.hand w).call⟩ _ rfl rfl rfl (Nat.le_succ _) rfl (hin w hw (by omega)) hnot (by simp [effB]) (by rw [hcw]) (by rw [hcw]) ?_ ?_ (fun k v h => h) (fun h => by cases h) (fun _ => by rw [hg]; simp) (hone (by omega))⟩
    ·rw [hcw]
     dsimp only
     rw [hg]
     have : (applyC ⟨w, (S.ask K w).kind, (S.ask K w).key, (S.ask K w).value, fr, -1, 0, 0⟩ (some v)).2.2.1 = some v := by unfold applyC; dsimp only; split <;> rfl
     rw [this]
     exact (setF_get S.get _ _ hg).symm
    ·rw [hcw]
     dsimp only
     rw [hg]
     unfold applyC; dsimp only; split <;> rfl
   | none =>
    have hk1 : (S.ask K w).kind ≠ 1 := fun h => hk ⟨h, hg⟩
    by_cases hk2 : (S.ask K w).kind = 2
    ·refine ⟨o ++ [(S.hand w).call], hL.effect w hhl hw _ ⟨4, false, (S.hand w).call⟩ _ rfl rfl rfl (Nat.le_succ _) rfl (hin w hw (by omega)) hnot (by simp [effB, hk2]) (by rw [hcw]) (by rw [hcw]) ?_ ?_ (fun k v h => h) (fun _ => hg) (fun h => by cases h) (hone (by omega))⟩
     ·rw [hcw]
      dsimp only
      rw [hg]
      have : (applyC ⟨w, (S.ask K w).kind, (S.ask K w).key, (S.ask K w).value, fr, -1, 0, 0⟩ none).2.2.1 = none := by unfold applyC; dsimp only; rw [if_neg hk1, if_pos hk2]
      rw [this]
      exact (setF_get S.get _ _ hg).symm
     ·rw [hcw]
      dsimp only
      rw [hg]
      unfold applyC; dsimp only; rw [if_neg hk1, if_pos hk2]
    ·have hk3 : (S.ask K w).kind = 3 := by omega
     exact ⟨o, hL.same _ w hhl hw ⟨4, false, (S.hand w).call⟩ rfl rfl rfl rfl (Nat.le_succ _) rfl (by omega) (by rw [hb]; simp [effB, hk3]) (fun hx => by simp [effB, hk3] at hx)⟩
 ·obtain ⟨fr, hcw⟩ := hC.hand w hw (by omega)
  obtain ⟨t1, t2, t3⟩ := H.two e
  have hnot : (S.hand w).call ∉ o := fun hm => by
   have := (hL.opn w hw (by omega)).1 hm
   unfold effB at this; rw [e] at this; simp at this
  have hap : ∀ k, (({ S with rows := S.rows ++ [⟨(S.ask K w).key, (S.ask K w).value, false⟩] } : Sh)).get k = (S.get k).or (if (S.ask K w).key = k then some (S.ask K w).value else none) := fun k => get_app ⟨(S.ask K w).key, (S.ask K w).value, false⟩ k _ rfl
  refine ⟨o ++ [(S.hand w).call], hL.effect w hhl hw _ ⟨3, (S.hand w).found, (S.hand w).call⟩ _ rfl rfl rfl (Nat.le_succ _) rfl (hin w hw (by omega)) hnot (by simp [effB]) (by rw [hcw]) (by rw [hcw]) ?_ ?_ (fun k v h => ?_) (fun _ => t2) (fun h => by rw [t3] at h; cases h) (hone (by omega))⟩
  ·rw [hcw]
   dsimp only
   rw [t2]
   have : (applyC ⟨w, (S.ask K w).kind, (S.ask K w).key, (S.ask K w).value, fr, -1, 0, 0⟩ none).2.2.1 = some (S.ask K w).value := by unfold applyC; dsimp only; rw [if_pos t1]
   rw [this]
   funext k
   refine (hap k).trans ?_
   unfold setF
   by_cases ek : k = (S.ask K w).key
   ·subst ek; rw [t2]; simp
   ·rw [if_neg ek, if_neg (fun h => ek h.symm)]; cases S.get k <;> rfl
  ·rw [hcw]
   dsimp only
   rw [t2]
   unfold applyC; dsimp only; rw [if_pos t1]
  ·refine (hap k).trans ?_
   rw [h]; rfl
 ·have hb : effB (S.ask K w) (S.hand w) = true := by unfold effB; rw [e]; simp
  obtain ⟨t1, t2, t3, t4⟩ := H.three e
  refine ⟨o, hL.same _ w hhl hw ⟨4, (S.hand w).found, (S.hand w).call⟩ rfl rfl rfl ?_ (Nat.le_succ _) rfl (by omega) (by rw [hb]; simp [effB, t1]) (fun _ => rfl)⟩
  funext k
  exact get_tell (S := S) (S.ask K w).key k _ rfl
 ·obtain ⟨fr, hcw⟩ := hC.hand w hw (by omega)
  have hend : ∀ (S' : Sh) (n er : Int), S'.hands = S.hands.set w hn0 → S'.next = S.next.set w (S.next.getD w 0 + 1) → S'.calls = S.calls.set (S.hand w).call { cAt S.calls (S.hand w).call with «to» := S.steps + 1, ans := n, err := er } → S'.get = S.get → S'.steps = S.steps + 1 →
    effB (S.ask K w) (S.hand w) = true → (∀ st, ((S.hand w).found = false → st = none) → ((S.hand w).found = true → st = S.get (S.ask K w).key ∧ S.get (S.ask K w).key ≠ none) → (applyC (cAt S.calls (S.hand w).call) st).2.2.2 = true ∧ (applyC (cAt S.calls (S.hand w).call) st).1 = n ∧ (applyC (cAt S.calls (S.hand w).call) st).2.1 = er) → ∃ o, LOk K S' o := fun S' n er q1 q2 q3 q4 q5 q6 q7 => by
   have hjo := (hL.opn w hw (by omega)).2 q6
   obtain ⟨s1, s2⟩ := hL.st w hw (by omega) hjo
   refine ⟨o, hL.ended_ok w hhl hw hnl S' (S.hand w).call _ q1 q2 rfl (hin w hw (by omega)) q3 q4 q5 rfl ⟨rfl, rfl, rfl⟩ rfl hjo ?_ (hone (by omega))⟩
   obtain ⟨a1, a2, a3⟩ := q7 _ s1 s2
   unfold stepOk
   rw [apply_same (a := { cAt S.calls (S.hand w).call with «to» := S.steps + 1, ans := n, err := er }) (b := cAt S.calls (S.hand w).call) ⟨rfl, rfl, rfl⟩, a1, a2, a3]
   simp
  rw [hcw] at hend
  unfold endOf2
  by_cases hk1 : (S.ask K w).kind = 1
  ·rw [if_pos hk1]
   refine hend _ 0 (if (S.hand w).found = true then 5 else 0) rfl rfl (by rw [← hcw]; rfl) rfl rfl (by simp [effB, e, hk1]) (fun st h1 h2 => ?_)
   cases hf : (S.hand w).found with
   | false => rw [h1 hf]; unfold applyC; dsimp only; rw [if_pos hk1]; simp
   | true =>
    obtain ⟨g1, g2⟩ := h2 hf
    cases hg : S.get (S.ask K w).key with
    | none => exact absurd hg g2
    | some v => rw [g1, hg]; unfold applyC; dsimp only; rw [if_pos hk1]; simp
  ·rw [if_neg hk1]
   cases hf : (S.hand w).found with
   | true =>
    refine hend _ ((S.get (S.ask K w).key).getD 0) 0 rfl rfl (by rw [← hcw]; rfl) rfl rfl (by simp [effB, e, hf]) (fun st h1 h2 => ?_)
    obtain ⟨g1, g2⟩ := h2 hf
    cases hg : S.get (S.ask K w).key with
    | none => exact absurd hg g2
    | some v => rw [g1, hg]; unfold applyC; dsimp only; rw [if_neg hk1]; simp
   | false =>
    by_cases hk2 : (S.ask K w).kind = 2
    ·simp only [Bool.false_eq_true, if_false, if_pos hk2]
     refine hend _ 0 4 rfl rfl (by rw [← hcw]; rfl) rfl rfl (by simp [effB, e, hk2]) (fun st h1 h2 => ?_)
     rw [h1 hf]; unfold applyC; dsimp only; rw [if_neg hk1, if_pos hk2]; simp
    ·simp only [Bool.false_eq_true, if_false, if_neg hk2]
     have hk3 : (S.ask K w).kind = 3 := by omega
     have hb : effB (S.ask K w) (S.hand w) = false := by simp [effB, e, hf, hk3]
     exact ⟨o, hL.same _ w hhl hw ⟨5, false, (S.hand w).call⟩ rfl rfl rfl rfl (Nat.le_succ _) rfl (by omega) (by rw [hb]; simp [effB]) (fun hx => by simp [effB] at hx)⟩
 ·obtain ⟨fr, hcw⟩ := hC.hand w hw (by omega)
  obtain ⟨n1, n2⟩ := H.five e
  have hlk : S.toldN (S.ask K w).key = true := by
   have hww := (can_facts hc).2
   unfold Sh.waitsN at hww
   rw [(can_facts hc).1, e] at hww
   simpa using hww
  obtain ⟨v, hg⟩ : ∃ v, S.get (S.ask K w).key = some v := by
   unfold Sh.toldN at hlk
   unfold Sh.get
   cases hr : rowAt S.rows (S.ask K w).key with
   | none => rw [hr] at hlk; cases hlk
   | some r => exact ⟨r.val, rfl⟩
  have hnot : (S.hand w).call ∉ o := fun hm => by
   have := (hL.opn w hw (by omega)).1 hm
   unfold effB at this; rw [e] at this; simp at this
  obtain ⟨S1, hS1⟩ : ∃ S1 : Sh, S1 = { S with hands := S.hands.set w ⟨4, true, (S.hand w).call⟩ } := ⟨_, rfl⟩
  have hap : ∀ st, st = some v → applyC ⟨w, (S.ask K w).kind, (S.ask K w).key, (S.ask K w).value, fr, -1, 0, 0⟩ st = (v, 0, some v, true) := fun st h => by rw [h]; unfold applyC; dsimp only; rw [if_neg n1]
  have h1 : LOk K S1 (o ++ [(S.hand w).call]) := by
   refine hL.effect w hhl hw S1 ⟨4, true, (S.hand w).call⟩ _ (by rw [hS1]) (by rw [hS1]) (by rw [hS1]) (by rw [hS1]; exact Nat.le_refl _) rfl (hin w hw (by omega)) hnot (by simp [effB]) (by rw [hcw]) (by rw [hcw]) ?_ ?_ (fun k v h => by rw [hS1]; exact h) (fun h => by cases h) (fun _ => by rw [hg]; simp) (hone (by omega))
   ·rw [hcw]
    dsimp only
    rw [hap _ hg, hS1]
    exact (setF_get S.get _ _ hg).symm
   ·rw [hcw]; dsimp only; rw [hap _ hg]
  have hh1 : S1.hand w = ⟨4, true, (S.hand w).call⟩ := by rw [hS1]; unfold Sh.hand; dsimp only; rw [getD_set _ _ hhl, if_pos rfl]
  have hk1 := hand_set (S := S) S1 w ⟨4, true, (S.hand w).call⟩ hhl (by rw [hS1])
  have hc1 : S1.calls = S.calls := by rw [hS1]
  have hjo : (S.hand w).call ∈ o ++ [(S.hand w).call] := by simp
  have ha1 : S1.ask K w = S.ask K w := by rw [hS1]; rfl
  have hg1 : S1.get = S.get := by rw [hS1]; rfl
  obtain ⟨-, s2⟩ := h1.st w hw (by rw [hh1]; simp) (by rw [hh1]; exact hjo)
  obtain ⟨a1, -⟩ := s2 (by rw [hh1])
  rw [hh1, ha1, hg1, hg] at a1
  obtain ⟨c', hc'⟩ : ∃ c' : Cl, c' = { cAt S.calls (S.hand w).call with «to» := S.steps + 1, ans := (S.get (S.ask K w).key).getD 0, err := 0 } := ⟨_, rfl⟩
  refine ⟨_, h1.ended_ok w (by rw [hS1]; simp; exact hhl) hw (by rw [hS1]; exact hnl) _ (S.hand w).call c' (by rw [hS1]; show S.hands.set w hn0 = (S.hands.set w _).set w hn0; rw [List.set_set]) (by rw [hS1]; rfl) (by rw [hh1]) (by rw [hc1]; exact hin w hw (by omega)) (by rw [hc1, hc']; rfl) (by rw [hg1]; rfl) (by rw [hS1]) (by rw [hS1, hc']) (by rw [hc1, hc']; exact ⟨rfl, rfl, rfl⟩) (by rw [hc1, hc']) hjo ?_ (fun u hu hne h0 => by rw [hk1, if_neg hne] at h0 ⊢; exact hone (by omega) u hu hne h0)⟩
  rw [hcw] at hc'
  unfold stepOk
  rw [a1, apply_same (b := ⟨w, (S.ask K w).kind, (S.ask K w).key, (S.ask K w).value, fr, -1, 0, 0⟩) (by rw [hc']; exact ⟨rfl, rfl, rfl⟩), hap _ rfl, hc']
  simp [hg]
end Go.Proofs.YtabkmdhkfbcldaaGreat
namespace Go.Proofs.YtabkmdhkfbcldaaGreat
open Go.RowKit
variable {K : Wk} {S : Sh}
theorem LOk.lin {o : List Nat} (h : LOk K S o) : Lin S.calls := ⟨o, h.nd, h.lt, h.ended, h.rt, h.steps⟩
structure HOk (S : Sh) : Prop where
 one : ∀ j, j < S.calls.length → OneC (cAt S.calls j)
 pr : ∀ i j, i < j → j < S.calls.length → (cAt S.calls i).w = (cAt S.calls j).w → (cAt S.calls i).to ≠ -1 ∧ (cAt S.calls i).to ≤ (cAt S.calls j).fr
 tos : ∀ j, j < S.calls.length → (cAt S.calls j).to ≤ S.steps
theorem HOk.hist (h : HOk S) : HistOk S.calls := by
 refine ⟨fun c hc => ?_, ?_⟩
 ·obtain ⟨j, hj, rfl⟩ := List.getElem_of_mem hc
  rw [← cAt_get _ _ hj]; exact h.one j hj
 ·unfold Pairs
  rw [List.pairwise_iff_getElem]
  intro i j hi hj hij hw
  rw [← cAt_get _ _ hi, ← cAt_get _ _ hj] at hw ⊢
  obtain ⟨h1, h2⟩ := h.pr i j hij hj hw
  left
  unfold aheadC
  simp [h1, h2]
theorem HOk.same (h : HOk S) (S' : Sh) (hc : S'.calls = S.calls) (hst : S.steps ≤ S'.steps) : HOk S' :=
 ⟨by rw [hc]; exact h.one, by rw [hc]; exact h.pr, by rw [hc]; exact fun j hj => Int.le_trans (h.tos j hj) (by omega)⟩
theorem HOk.begun (h : HOk S) (S' : Sh) (c : Cl) (hc : S'.calls = S.calls ++ [c]) (hst : S'.steps = S.steps + 1) (h1 : OneC c) (hfr : c.fr = S.steps) (hto : c.to = -1) (hcl : ∀ j, j < S.calls.length → (cAt S.calls j).w = c.w → (cAt S.calls j).to ≠ -1) : HOk S' := by
 have hca : ∀ j, j < S.calls.length → cAt S'.calls j = cAt S.calls j := fun j hj => by rw [hc, cAt_app, if_pos hj]
 have hcn : ∀ j, ¬ j < S.calls.length → j < S'.calls.length → cAt S'.calls j = c := fun j hj hj2 => by
  rw [hc, List.length_append] at hj2
  simp at hj2
  rw [hc, cAt_app, if_neg hj, if_pos (by omega)]
 refine ⟨fun j hj => ?_, fun i j hij hj hw => ?_, fun j hj => ?_⟩
 ·by_cases e : j < S.calls.length
  ·rw [hca j e]; exact h.one j e
  ·rw [hcn j e hj]; exact h1
 ·have hi : i < S.calls.length := by rw [hc, List.length_append] at hj; simp at hj; omega
  rw [hca i hi] at hw ⊢
  by_cases e : j < S.calls.length
  ·rw [hca j e] at hw ⊢; exact h.pr i j hij e hw
  ·rw [hcn j e hj] at hw ⊢
   exact ⟨hcl i hi hw, by rw [hfr]; exact h.tos i hi⟩
 ·by_cases e : j < S.calls.length
  ·rw [hca j e, hst]; have := h.tos j e; omega
  ·rw [hcn j e hj, hto, hst]; omega
theorem HOk.ended (h : HOk S) (S' : Sh) (j : Nat) (c : Cl) (hjl : j < S.calls.length) (hc : S'.calls = S.calls.set j c) (hst : S'.steps = S.steps + 1) (h1 : OneC c) (hw : c.w = (cAt S.calls j).w) (hfr : c.fr = (cAt S.calls j).fr) (hto : c.to = S.steps + 1) (hop : (cAt S.calls j).to = -1) : HOk S' := by
 have hcs : ∀ i, i ≠ j → cAt S'.calls i = cAt S.calls i := fun i hi => by rw [hc, cAt_set _ _ _ _ hjl, if_neg hi]
 have hcj : cAt S'.calls j = c := by rw [hc, cAt_set _ _ _ _ hjl, if_pos rfl]
 have hlen : S'.calls.length = S.calls.length := by rw [hc, List.length_set]
 have hww : ∀ i, (cAt S'.calls i).w = (cAt S.calls i).w ∧ (cAt S'.calls i).fr = (cAt S.calls i).fr := fun i => by
  by_cases e : i = j
  ·subst e; rw [hcj]; exact ⟨hw, hfr⟩
  ·rw [hcs i e]; exact ⟨rfl, rfl⟩
 refine ⟨fun i hi => ?_, fun i k hik hk hwk => ?_, fun i hi => ?_⟩
 ·rw [hlen] at hi
  by_cases e : i = j
  ·subst e; rw [hcj]; exact h1
  ·rw [hcs i e]; exact h.one i hi
 ·rw [hlen] at hk
  rw [(hww i).1, (hww k).1] at hwk
  have hp := h.pr i k hik hk hwk
  rw [(hww k).2]
  by_cases e : i = j
  ·subst e; exact absurd hop hp.1
  ·rw [hcs i e]; exact hp
 ·rw [hlen] at hi
  by_cases e : i = j
  ·subst e; rw [hcj, hto, hst]; omega
  ·rw [hcs i e, hst]; have := h.tos i hi; omega
end Go.Proofs.YtabkmdhkfbcldaaGreat
namespace Go.Proofs.YtabkmdhkfbcldaaGreat
open Go.RowKit
variable {K : Wk} {S : Sh}
theorem HOk.step (hn : K.work.length ≤ 64) (HKD : ∀ v, ∀ a ∈ K.own v, 1 ≤ a.kind ∧ a.kind ≤ 3) (HKV : ∀ v, ∀ a ∈ K.own v, a.value = 0 ∨ a.kind = 1) (ho : ShOk K S) (hC : CallOk K S) (h : HOk S) (hfrs : ∀ j, j < S.calls.length → (cAt S.calls j).fr ≤ S.steps) (w : Nat) (hc : S.canN K w = true) : HOk (S.stepN K w) := by
 have hw := can_lt hc
 have H := ho.each w hw
 have h5 : (S.hand w).at_ ≤ 5 := by
  by_cases h0 : (S.hand w).at_ = 0
  ·omega
  ·exact (H.inh h0).2.2
 have hmem : S.ask K w ∈ K.own w := by
  have hnx := ho.nx hw (can_facts hc).1
  unfold Sh.ask
  rw [List.getD_eq_getElem?_getD, List.getElem?_eq_getElem hnx]
  exact List.getElem_mem hnx
 have hkd := HKD w _ hmem
 have hkv := HKV w _ hmem
 have hend : (S.hand w).at_ ≠ 0 → ∀ (S' : Sh) (n er : Int), S'.calls = S.calls.set (S.hand w).call { cAt S.calls (S.hand w).call with «to» := S.steps + 1, ans := n, err := er } → S'.steps = S.steps + 1 →
   (n = 0 ∨ ((S.ask K w).kind ≠ 1 ∧ er = 0)) → (er = 0 ∨ (er = 5 ∧ (S.ask K w).kind = 1) ∨ (er = 4 ∧ (S.ask K w).kind = 2)) → HOk S' := fun h0 S' n er q1 q2 q3 q4 => by
  have hjl := (H.inh h0).2.1
  obtain ⟨fr, hcw⟩ := hC.hand w hw h0
  have hone := h.one _ hjl
  refine h.ended S' (S.hand w).call _ hjl q1 q2 ?_ rfl rfl rfl (by rw [hcw])
  have hfr := hfrs _ hjl
  rw [hcw] at hone hfr ⊢
  refine ⟨hone.w, hone.k, hone.f, .inr ?_, hone.v, fun hto => ?_, q3, q4⟩
  ·show fr < (S.steps : Int) + 1
   have hfr : fr ≤ (S.steps : Int) := hfr
   omega
  ·exfalso
   have hto : (S.steps : Int) + 1 = -1 := hto
   omega
 rw [step_is hc]
 unfold Sh.body
 dsimp only
 rcases (show (S.hand w).at_ = 0 ∨ (S.hand w).at_ = 1 ∨ (S.hand w).at_ = 2 ∨ (S.hand w).at_ = 3 ∨ (S.hand w).at_ = 4 ∨ (S.hand w).at_ = 5 by omega) with e | e | e | e | e | e <;> simp only [e]
 ·refine h.begun _ _ rfl rfl ⟨⟨by show (0 : Int) ≤ (w : Nat); omega, by show ((w : Nat) : Int) < 64; omega⟩, hkd, by show (0 : Int) ≤ (S.steps : Nat); omega, .inl rfl, hkv, fun _ => ⟨rfl, rfl⟩, .inl rfl, .inl rfl⟩ rfl rfl (fun j hj hwj hto => ?_)
  obtain ⟨v, v1, v2, v3⟩ := hC.opens j hj hto
  obtain ⟨fr, hcv⟩ := hC.hand v v1 v2
  rw [v3] at hcv
  rw [hcv] at hwj
  have : v = w := by have h9 : (v : Int) = w := hwj; omega
  subst this
  exact v2 e
 ·exact h.same _ rfl (Nat.le_succ _)
 ·exact h.same _ rfl (Nat.le_succ _)
 ·exact h.same _ rfl (Nat.le_succ _)
 ·unfold endOf2
  by_cases hk1 : (S.ask K w).kind = 1
  ·rw [if_pos hk1]
   refine hend (by omega) _ 0 (if (S.hand w).found = true then 5 else 0) rfl rfl (.inl rfl) ?_
   cases (S.hand w).found with
   | true => exact .inr (.inl ⟨rfl, hk1⟩)
   | false => exact .inl rfl
  ·rw [if_neg hk1]
   cases hf : (S.hand w).found with
   | true => exact hend (by omega) _ ((S.get (S.ask K w).key).getD 0) 0 rfl rfl (.inr ⟨hk1, rfl⟩) (.inl rfl)
   | false =>
    by_cases hk2 : (S.ask K w).kind = 2
    ·simp only [Bool.false_eq_true, if_false, if_pos hk2]
     exact hend (by omega) _ 0 4 rfl rfl (.inl rfl) (.inr (.inr ⟨rfl, hk2⟩))
    ·simp only [Bool.false_eq_true, if_false, if_neg hk2]
     exact h.same _ rfl (Nat.le_succ _)
 ·exact hend (by omega) _ ((S.get (S.ask K w).key).getD 0) 0 rfl rfl (.inr ⟨(H.five e).1, rfl⟩) (.inl rfl)
end Go.Proofs.YtabkmdhkfbcldaaGreat
namespace Go.Proofs.YtabkmdhkfbcldaaGreat
open Go.RowKit
variable {K : Wk} {S : Sh}
def GOk (K : Wk) (S : Sh) : Prop := FOk K S ∧ HOk S ∧ ∃ o, LOk K S o
theorem start_g (K : Wk) : GOk K (Sh.start K) := ⟨start_f K, ⟨fun j hj => (by cases hj), fun i j _ hj => (by cases hj), fun j hj => (by cases hj)⟩, [], start_l K⟩
theorem GOk.step (HO : ∀ k, K.of k < K.shards) (hn : K.work.length ≤ 64) (HKD : ∀ v, ∀ a ∈ K.own v, 1 ≤ a.kind ∧ a.kind ≤ 3) (HKV : ∀ v, ∀ a ∈ K.own v, a.value = 0 ∨ a.kind = 1) (ho : ShOk K S) (h : GOk K S) (w : Nat) (hc : S.canN K w = true) : GOk K (S.stepN K w) := by
 obtain ⟨h1, h2, o, h3⟩ := h
 exact ⟨h1.step HO ho w hc, h2.step hn HKD HKV ho h1.1 h3.fr w hc, LOk.step HKD ho h1.1 ⟨o, h3⟩ w hc⟩
theorem Reach.g_ok (HO : ∀ k, K.of k < K.shards) (hn : K.work.length ≤ 64) (HKD : ∀ v, ∀ a ∈ K.own v, 1 ≤ a.kind ∧ a.kind ≤ 3) (HKV : ∀ v, ∀ a ∈ K.own v, a.value = 0 ∨ a.kind = 1) {S' : Sh} (h : Reach K S S') (hs : GOk K S) : GOk K S' :=
 h (GOk K) hs (fun _ w ho hc hf => hf.step HO hn HKD HKV ho w hc)
theorem GOk.legal (h : GOk K S) : HistOk S.calls ∧ Lin S.calls := by
 obtain ⟨_, h2, o, h3⟩ := h
 exact ⟨h2.hist, h3.lin⟩
end Go.Proofs.YtabkmdhkfbcldaaGreat
namespace Go.Proofs.YtabkmdhkfbcldaaGreat
variable {l : List Cl} {k : ByteArray} {sb sa r o : List Nat}
structure Sp where
 b : List Nat
 a : List Nat
 p : List Nat
 s : Bool
def sp0 : Sp := ⟨[], [], [], false⟩
def spStep (l : List Cl) (k : ByteArray) (s : Sp) (i : Nat) : Sp :=
 if (cAt l i).key ≠ k then s
 else if (cAt l i).to = -1 then (if (cAt l i).kind = 1 then (if s.s then s else { s with p := s.p ++ [i] }) else s)
 else if (cAt l i).kind = 1 ∧ (cAt l i).err = 0 then { s with p := (if s.s then s.p else []) ++ [i], s := true }
 else if (cAt l i).err = 4 then { s with b := s.b ++ [i] }
 else { s with a := s.a ++ [i] }
def splitTo (l : List Cl) (k : ByteArray) (n : Nat) : Sp := (List.range n).foldl (spStep l k) sp0
theorem split_succ (n : Nat) : splitTo l k (n + 1) = spStep l k (splitTo l k n) n := by
 unfold splitTo
 rw [List.range_succ, List.foldl_append]; rfl
def idxTo (l : List Cl) (n : Nat) (P : Cl → Bool) : List Nat := (List.range n).filter (fun i => P (cAt l i))
theorem idxTo_succ (n : Nat) (P : Cl → Bool) : idxTo l (n + 1) P = if P (cAt l n) then idxTo l n P ++ [n] else idxTo l n P := by
 unfold idxTo
 rw [List.range_succ, List.filter_append]
 by_cases h : P (cAt l n) = true
 ·simp [h]
 ·simp [h]
def spOf (l : List Cl) (k : ByteArray) (n : Nat) : Sp :=
 ⟨idxTo l n (isBef k), idxTo l n (isAft k), if idxTo l n (isPut k) = [] then idxTo l n (isMay k) else idxTo l n (isPut k), decide (idxTo l n (isPut k) ≠ [])⟩
theorem split_is : ∀ n, splitTo l k n = spOf l k n
 | 0 => rfl
 | n + 1 => by
  rw [split_succ, split_is n]
  unfold spStep spOf
  simp only [idxTo_succ]
  by_cases h1 : (cAt l n).key = k
  ·by_cases h2 : (cAt l n).to = -1
   ·by_cases h3 : (cAt l n).kind = 1
    ·by_cases h4 : idxTo l n (isPut k) = []
     ·simp [h1, h2, h3, h4, isBef, isAft, isPut, isMay, okDef]
     ·simp [h1, h2, h3, h4, isBef, isAft, isPut, isMay, okDef]
    ·simp [h1, h2, h3, isBef, isAft, isPut, isMay, okDef]
   ·by_cases h3 : (cAt l n).kind = 1 ∧ (cAt l n).err = 0
    ·by_cases h4 : idxTo l n (isPut k) = []
     ·simp [h1, h2, h3, h4, isBef, isAft, isPut, isMay, okDef]
     ·simp [h1, h2, h3, h4, isBef, isAft, isPut, isMay, okDef]
    ·have h3' : okDef (cAt l n) = false := by
      unfold okDef
      rw [Bool.and_eq_false_iff]
      simp only [decide_eq_false_iff_not]
      by_cases e : (cAt l n).kind = 1
      ·exact .inr fun e2 => h3 ⟨e, e2⟩
      ·exact .inl e
     by_cases h4 : (cAt l n).err = 4
     ·simp [h1, h2, h3, h4, isBef, isAft, isPut, isMay, h3']
     ·simp [h1, h2, h3, h4, isBef, isAft, isPut, isMay, h3']
  ·simp [h1, isBef, isAft, isPut, isMay]
theorem split_all : splitTo l k l.length = ⟨idxOf l (isBef k), idxOf l (isAft k), if idxOf l (isPut k) = [] then idxOf l (isMay k) else idxOf l (isPut k), decide (idxOf l (isPut k) ≠ [])⟩ := split_is _
theorem split_lt : ∀ n, (∀ i ∈ (splitTo l k n).b, i < n) ∧ (∀ i ∈ (splitTo l k n).a, i < n) ∧ (∀ i ∈ (splitTo l k n).p, i < n) := fun n => by
 have h : ∀ P, ∀ i ∈ idxTo l n P, i < n := fun P i hi => List.mem_range.1 (List.mem_filter.1 hi).1
 rw [split_is]
 refine ⟨h _, h _, fun i hi => ?_⟩
 have hi : i ∈ (if idxTo l n (isPut k) = [] then idxTo l n (isMay k) else idxTo l n (isPut k)) := hi
 split at hi
 ·exact h _ i hi
 ·exact h _ i hi
def fitsC (l : List Cl) (sb sa : List Nat) (p : Nat) : Bool :=
 sb.all (fun i => !aheadC (cAt l p) (cAt l i) && sa.all (fun j => !aheadC (cAt l j) (cAt l i))) && sa.all (fun i => !aheadC (cAt l i) (cAt l p) && (decide ((cAt l i).kind = 1) || decide ((cAt l i).ans = (cAt l p).value)))
theorem fits_iff {p : Nat} : fitsC l sb sa p = true ↔ FitsC (sb.map (cAt l)) (sa.map (cAt l)) (cAt l p) := by
 unfold fitsC
 simp only [Bool.and_eq_true, List.all_eq_true, Bool.not_eq_true', Bool.or_eq_true, decide_eq_true_eq]
 constructor
 ·rintro ⟨h1, h2⟩
  refine ⟨fun c hc => ?_, fun c hc => ?_⟩
  ·obtain ⟨i, hi, rfl⟩ := List.mem_map.1 hc
   refine ⟨(h1 i hi).1, fun d hd => ?_⟩
   obtain ⟨j, hj, rfl⟩ := List.mem_map.1 hd
   exact (h1 i hi).2 j hj
  ·obtain ⟨i, hi, rfl⟩ := List.mem_map.1 hc
   exact h2 i hi
 ·rintro ⟨h1, h2⟩
  refine ⟨fun i hi => ?_, fun i hi => h2 _ (List.mem_map.2 ⟨i, hi, rfl⟩)⟩
  have := h1 _ (List.mem_map.2 ⟨i, hi, rfl⟩)
  exact ⟨this.1, fun j hj => this.2 _ (List.mem_map.2 ⟨j, hj, rfl⟩)⟩
def rowC (l : List Cl) (sb sa ps : List Nat) (sure : Bool) : Option (List Nat) :=
 if sure = false ∧ sa.length = 0 then some sb
 else if sure = true ∧ ps.length ≠ 1 then none
 else match ps.find? (fitsC l sb sa) with
  | some p => some (sb ++ p :: sa)
  | none => none
theorem row_law (H : Parts l k sb sa) : let s := splitTo l k l.length; (∀ r, rowC l sb sa s.p s.s = some r → RowIs l k sb sa r) ∧ (rowC l sb sa s.p s.s = none → ∀ r, ¬ RowIs l k sb sa r) := by
 intro s
 have hs : s = _ := split_all
 have hp : s.p = if idxOf l (isPut k) = [] then idxOf l (isMay k) else idxOf l (isPut k) := by rw [hs]
 have hsu : s.s = decide (idxOf l (isPut k) ≠ []) := by rw [hs]
 have hal : sa.length = (idxOf l (isAft k)).length := H.a.length_eq
 rw [hp, hsu]
 unfold rowC
 by_cases h1 : idxOf l (isPut k) = []
 ·rw [if_pos h1]
  by_cases h2 : idxOf l (isAft k) = []
  ·have : sa.length = 0 := by rw [hal, h2]; rfl
   refine ⟨fun r hr => ?_, fun hr => ?_⟩
   ·rw [if_pos ⟨by simp [h1], this⟩] at hr
    injection hr with hr
    subst hr
    exact .none h1 h2
   ·rw [if_pos ⟨by simp [h1], this⟩] at hr; cases hr
  ·have hne : ¬ sa.length = 0 := fun e => h2 (List.eq_nil_of_length_eq_zero (by omega))
   rw [if_neg (fun e => hne e.2), if_neg (fun e => by simp [h1] at e)]
   refine ⟨fun r hr => ?_, fun hr r hrr => ?_⟩
   ·cases hf : (idxOf l (isMay k)).find? (fitsC l sb sa) with
    | none => rw [hf] at hr; cases hr
    | some p =>
     rw [hf] at hr
     injection hr with hr
     subst hr
     exact .may p h1 h2 (List.mem_of_find?_eq_some hf) (fits_iff.1 (List.find?_some hf))
   ·cases hf : (idxOf l (isMay k)).find? (fitsC l sb sa) with
    | some p => rw [hf] at hr; cases hr
    | none =>
     rw [List.find?_eq_none] at hf
     cases hrr with
     | none _ g2 => exact h2 g2
     | sure p g1 _ => rw [h1] at g1; cases g1
     | may p _ _ g4 g2 => exact hf p g4 (fits_iff.2 g2)
 ·rw [if_neg h1, if_neg (fun e => by simp [h1] at e)]
  by_cases h2 : (idxOf l (isPut k)).length ≠ 1
  ·rw [if_pos ⟨by simp [h1], h2⟩]
   refine ⟨fun r hr => (by cases hr), fun _ r hrr => ?_⟩
   cases hrr with
   | none g1 _ => exact h1 g1
   | sure p g1 _ => rw [g1] at h2; exact h2 rfl
   | may p g1 _ _ _ => exact h1 g1
  ·rw [if_neg (fun e => h2 e.2)]
   obtain ⟨p, hpp⟩ : ∃ p, idxOf l (isPut k) = [p] := by
    cases hq : idxOf l (isPut k) with
    | nil => exact absurd hq h1
    | cons p q =>
     have : q = [] := by
      rw [hq] at h2
      simp at h2
      exact h2
     exact ⟨p, by rw [this]⟩
   rw [hpp]
   constructor
   ·intro r hr
    by_cases hf : fitsC l sb sa p = true
    ·simp [hf] at hr
     subst hr
     exact .sure p hpp (fits_iff.1 hf)
    ·simp [hf] at hr
   ·intro hr r hrr
    cases hrr with
    | none g1 _ => exact h1 g1
    | sure q g1 g2 =>
     rw [hpp] at g1
     injection g1 with g1 _
     subst g1
     simp [fits_iff.2 g2] at hr
    | may q g1 _ _ _ => exact h1 g1
open Classical in
noncomputable def keyStep (acc : List ByteArray) (c : Cl) : List ByteArray := if c.key ∈ acc then acc else acc ++ [c.key]
noncomputable def keysF (l : List Cl) : List ByteArray := l.foldl keyStep []
theorem keysF_snoc (l : List Cl) (c : Cl) : keysF (l ++ [c]) = keyStep (keysF l) c := by unfold keysF; rw [List.foldl_append]; rfl
theorem keysF_take (i : Nat) (h : i < l.length) : keysF (l.take (i + 1)) = keyStep (keysF (l.take i)) (cAt l i) := by
 rw [← keysF_snoc, List.take_add_one, List.getElem?_eq_getElem h]
 simp [cAt, List.getD_eq_getElem?_getD, h]
theorem keys_fold : ∀ (l : List Cl) (acc : List ByteArray), acc.Nodup → (l.foldl keyStep acc).Nodup ∧ ∀ k, k ∈ l.foldl keyStep acc ↔ k ∈ acc ∨ ∃ c ∈ l, c.key = k
 | [], acc, h => ⟨h, fun k => by simp⟩
 | c :: l, acc, h => by
  have hn : (keyStep acc c).Nodup := by
   unfold keyStep
   split
   ·exact h
   ·rename_i hc
    exact List.nodup_append.2 ⟨h, List.nodup_cons.2 ⟨by simp, List.nodup_nil⟩, fun a ha b hb e => hc (by rw [List.mem_singleton.1 hb] at e; rw [← e]; exact ha)⟩
  obtain ⟨h1, h2⟩ := keys_fold l (keyStep acc c) hn
  refine ⟨h1, fun k => ?_⟩
  rw [List.foldl_cons, h2 k]
  unfold keyStep
  split
  ·rename_i hc
   constructor
   ·rintro (g | ⟨d, hd, e⟩)
    ·exact .inl g
    ·exact .inr ⟨d, List.mem_cons_of_mem _ hd, e⟩
   ·rintro (g | ⟨d, hd, e⟩)
    ·exact .inl g
    ·rcases List.mem_cons.1 hd with e2 | hd
     ·subst e2; exact .inl (by rw [← e]; exact hc)
     ·exact .inr ⟨d, hd, e⟩
  ·constructor
   ·rintro (g | ⟨d, hd, e⟩)
    ·rcases List.mem_append.1 g with g | g
     ·exact .inl g
     ·exact .inr ⟨c, List.mem_cons_self .., (List.mem_singleton.1 g).symm⟩
    ·exact .inr ⟨d, List.mem_cons_of_mem _ hd, e⟩
   ·rintro (g | ⟨d, hd, e⟩)
    ·exact .inl (List.mem_append_left _ g)
    ·rcases List.mem_cons.1 hd with e2 | hd
     ·subst e2; exact .inl (List.mem_append_right _ (by simp [e]))
     ·exact .inr ⟨d, hd, e⟩
theorem keysF_nodup : (keysF l).Nodup := (keys_fold l [] List.nodup_nil).1
theorem keysF_mem : k ∈ keysF l ↔ ∃ c ∈ l, c.key = k := by
 have := (keys_fold l [] List.nodup_nil).2 k
 show k ∈ l.foldl keyStep [] ↔ _
 rw [this]
 simp
theorem cAt_mem (i : Nat) (h : i < l.length) : cAt l i ∈ l := by
 have e : cAt l i = l[i] := by simp [cAt, List.getD_eq_getElem?_getD, h]
 rw [e]; exact List.getElem_mem h
theorem mem_cAt {c : Cl} (h : c ∈ l) : ∃ i, i < l.length ∧ cAt l i = c := by
 obtain ⟨i, hi, e⟩ := List.getElem_of_mem h
 exact ⟨i, hi, by simp [cAt, List.getD_eq_getElem?_getD, hi, e]⟩
theorem row_said (ho : HistOk l) (H : Parts l k sb sa) (h : rowC l sb sa (splitTo l k l.length).p (splitTo l k l.length).s = some r) : RowOk l k r :=
 row_ok ((row_law H).1 r h) H ho.at
theorem row_none (ho : HistOk l) (H : Parts l k sb sa) (h : rowC l sb sa (splitTo l k l.length).p (splitTo l k l.length).s = none) : ¬ Lin l := by
 rintro ⟨o, hl⟩
 obtain ⟨r, hr⟩ := legal_row hl ho.at H
 exact (row_law H).2 h r hr
structure FindIs (l : List Cl) (o : List Nat) (is : Bool) (e : Int) : Prop where
 e : e = chkL l
 bad : chkL l ≠ 0 → is = false
 lin : chkL l = 0 → (is = true ↔ Lin l)
 leg : is = true → Legal l o
 no : is = false → o = []
theorem rows_map {rows : List (List Nat)} {keys : List ByteArray} (hlen : rows.length = keys.length) (hn : keys.Nodup) : ∃ f : ByteArray → List Nat, rows = keys.map f ∧ ∀ k ∈ keys, ∃ j, ∃ h : j < keys.length, keys[j] = k ∧ f k = rows.getD j [] := by
 refine ⟨fun k => rows.getD (keys.findIdx (fun j => decide (j = k))) [], List.ext_getElem (by simpa using hlen) fun i h1 h2 => ?_, fun k hk => ?_⟩
 ·simp only [List.getElem_map]
  have hi : i < keys.length := by simpa using h2
  have hidx : keys.findIdx (fun j => decide (j = keys[i])) = i := by
   have hlt : keys.findIdx (fun j => decide (j = keys[i])) < keys.length := List.findIdx_lt_length_of_exists ⟨keys[i], List.getElem_mem hi, by simp⟩
   have he := List.findIdx_getElem (xs := keys) (p := fun j => decide (j = keys[i])) (w := hlt)
   have he := of_decide_eq_true he
   rcases Nat.lt_trichotomy (keys.findIdx (fun j => decide (j = keys[i]))) i with g | g | g
   ·exact absurd he (List.pairwise_iff_getElem.1 hn _ _ hlt hi g)
   ·exact g
   ·exact absurd he.symm (List.pairwise_iff_getElem.1 hn _ _ hi hlt g)
  rw [hidx]
  simp [List.getD_eq_getElem?_getD, h1]
 ·have hlt : keys.findIdx (fun j => decide (j = k)) < keys.length := List.findIdx_lt_length_of_exists ⟨k, hk, by simp⟩
  have he := List.findIdx_getElem (xs := keys) (p := fun j => decide (j = k)) (w := hlt)
  exact ⟨_, hlt, of_decide_eq_true he, rfl⟩
theorem find_yes {rows : List (List Nat)} (ho : HistOk l) (hm : ∀ i, i < l.length → (cAt l i).to ≤ maxI) (hlen : rows.length = (keysF l).length) (hr : ∀ j, (h : j < (keysF l).length) → RowOk l (keysF l)[j] (rows.getD j [])) (n : Nat) (hn : rows.flatten.length ≤ n) : Legal l (mergeN l n rows) := by
 obtain ⟨f, e, hf⟩ := rows_map hlen keysF_nodup
 rw [e] at hn ⊢
 refine rows_legal ho.at hm keysF_nodup (fun i hi => keysF_mem.2 ⟨_, cAt_mem i hi, rfl⟩) (fun k hk => ?_) n hn
 obtain ⟨j, hj, e1, e2⟩ := hf k hk
 rw [e2, ← e1]
 exact hr j hj
end Go.Proofs.YtabkmdhkfbcldaaGreat
namespace Go.Proofs.YtabkmdhkfbcldaaGreat
variable {l : List Cl} {k : ByteArray} {o : List Nat}
abbrev Prs := List (ByteArray × Int)
def getV (m : Prs) (k : ByteArray) : Option Int := (m.find? (fun p => decide (p.1 = k))).map Prod.snd
theorem getV_snoc (m : Prs) (a : ByteArray) (v : Int) (k : ByteArray) : getV (m ++ [(a, v)]) k = match getV m k with | some x => some x | none => if a = k then some v else none := by
 unfold getV
 rw [List.find?_append]
 cases h : m.find? (fun p => decide (p.1 = k)) with
 | some p => rfl
 | none =>
  by_cases e : a = k
  ·simp [e]
  ·simp [e]
def stpM (m : Prs) (c : Cl) : Prs := match getV m c.key with | some _ => m | none => if c.kind = 1 then m ++ [(c.key, c.value)] else m
def stpR : Prs → List Cl → Bool
 | _, [] => true
 | m, c :: o => stepOk c (getV m c.key) && stpR (stpM m c) o
theorem stpM_set (m : Prs) (c : Cl) : getV (stpM m c) = setF (getV m) c.key (applyC c (getV m c.key)).2.2.1 := by
 unfold stpM
 cases h : getV m c.key with
 | some v =>
  have : (applyC c (some v)).2.2.1 = some v := by unfold applyC; by_cases hk : c.kind = 1 <;> simp [hk]
  rw [this, ← h, setF_same]
  simp only [h]
 | none =>
  by_cases hk : c.kind = 1
  ·simp only [if_pos hk]
   have : (applyC c none).2.2.1 = some c.value := by simp [applyC, hk]
   rw [this]
   funext j
   rw [getV_snoc]
   unfold setF
   by_cases e : j = c.key
   ·rw [if_pos e, e, h]; simp
   ·rw [if_neg e]
    cases getV m j with
    | some v => rfl
    | none => simp [Ne.symm e]
  ·simp only [if_neg hk]
   have : (applyC c none).2.2.1 = none := by unfold applyC; by_cases h2 : c.kind = 2 <;> simp [hk, h2]
   rw [this, ← h, setF_same]
theorem stp_is : ∀ (o : List Cl) (m : Prs), stpR m o = stepsF (getV m) o
 | [], _ => rfl
 | c :: o, m => by
  show (_ && stpR (stpM m c) o) = (_ && _)
  rw [stp_is o, stpM_set]
theorem stp_steps (o : List Cl) : stpR [] o = stepsF (fun _ => none) o := stp_is o []
def placeOf (o : List Nat) (k : Nat) : Nat := if k ∈ o then o.findIdx (fun j => j == k) + 1 else 0
theorem place_pos {k : Nat} : 0 < placeOf o k ↔ k ∈ o := by
 unfold placeOf
 split <;> simp_all
theorem find_lt {k : Nat} (h : k ∈ o) : ∃ hl : o.findIdx (fun j => j == k) < o.length, o[o.findIdx (fun j => j == k)] = k := by
 have hl : o.findIdx (fun j => j == k) < o.length := List.findIdx_lt_length_of_exists ⟨k, h, by simp⟩
 exact ⟨hl, beq_iff_eq.1 (List.findIdx_getElem (xs := o) (p := fun j => j == k) (w := hl))⟩
theorem place_ahead (h : Legal l o) {i k : Nat} (hi : i ∈ o) (hk : k ∈ o) (hlt : placeOf o k < placeOf o i) : aheadC (cAt l i) (cAt l k) = false := by
 unfold placeOf at hlt
 rw [if_pos hi, if_pos hk] at hlt
 obtain ⟨h1, e1⟩ := find_lt hi
 obtain ⟨h2, e2⟩ := find_lt hk
 have := List.pairwise_iff_getElem.1 h.rt _ _ h2 h1 (by omega)
 rwa [e1, e2] at this
theorem legal_len (h : Legal l o) : o.length ≤ l.length := nodup_len _ o h.nd h.lt
theorem place_succ (hn : o.Nodup) (i : Nat) (hi : i < o.length) (k : Nat) : placeOf (o.take (i + 1)) k = if k = o[i] then i + 1 else placeOf (o.take i) k := by
 have e : o.take (i + 1) = o.take i ++ [o[i]] := by rw [List.take_add_one, List.getElem?_eq_getElem hi]; rfl
 have hni : o[i] ∉ o.take i := fun h => by
  obtain ⟨j, hj, e⟩ := List.getElem_of_mem h
  rw [List.getElem_take] at e
  have hj2 : j < i := by simp at hj; omega
  exact List.pairwise_iff_getElem.1 hn j i (by omega) hi hj2 e
 have hlen : (o.take i).length = i := by simp; omega
 generalize o.take (i + 1) = q at e
 subst e
 unfold placeOf
 by_cases hk : k = o[i]
 ·rw [if_pos hk, if_pos (List.mem_append.2 (.inr (by rw [hk]; exact List.mem_singleton_self _))), List.findIdx_append, if_neg (by
   rw [List.findIdx_lt_length]
   rintro ⟨x, hx, hxe⟩
   have : x = k := by simpa using hxe
   subst this
   exact hni (hk ▸ hx))]
  simp [hk]; omega
 ·rw [if_neg hk]
  by_cases hm : k ∈ o.take i
  ·rw [if_pos (List.mem_append.2 (.inl hm)), if_pos hm, List.findIdx_append, if_pos (List.findIdx_lt_length_of_exists ⟨k, hm, by simp⟩)]
  ·rw [if_neg hm, if_neg (fun h => by rcases List.mem_append.1 h with h | h; exact hm h; exact hk (List.mem_singleton.1 h))]
end Go.Proofs.YtabkmdhkfbcldaaGreat
namespace Go.Proofs.YtabkmdhkfbcldaaGreat
open Go.RowKit
def Cl.cellsLn (c : Cl) : List Value := [.int .i64 c.w, .int .i64 c.kind, .string c.key, .int .i64 c.value, .int .i64 c.fr, .int .i64 c.to, .int .i64 c.ans, .int .i64 c.err]
theorem cl_cells {w : World} {b o : Nat} {ys : List Cl} (h : Row w (some ⟨b, o, none⟩) (ys.flatMap Cl.cellsLn)) (k : Nat) (hk : k < ys.length) :
  w.cell? ⟨b, o + k * 8, none⟩ = some (.int .i64 ys[k].w) ∧ w.cell? ⟨b, o + k * 8 + 1, none⟩ = some (.int .i64 ys[k].kind) ∧ w.cell? ⟨b, o + k * 8 + 2, none⟩ = some (.string ys[k].key) ∧ w.cell? ⟨b, o + k * 8 + 3, none⟩ = some (.int .i64 ys[k].value) ∧ w.cell? ⟨b, o + k * 8 + 4, none⟩ = some (.int .i64 ys[k].fr) ∧ w.cell? ⟨b, o + k * 8 + 5, none⟩ = some (.int .i64 ys[k].to) ∧ w.cell? ⟨b, o + k * 8 + 6, none⟩ = some (.int .i64 ys[k].ans) ∧ w.cell? ⟨b, o + k * 8 + 7, none⟩ = some (.int .i64 ys[k].err) := by
 have each : ∀ j (hj : j < 8), w.cell? ⟨b, o + (k * 8 + j), none⟩ = (Cl.cellsLn ys[k])[j]? := fun j hj => by
  have hl := flat_len Cl.cellsLn 8 (fun _ => rfl) ys
  rw [show k * 8 + j = 8 * k + j from by omega]
  rw [h.cell (8 * k + j) (by omega), ← flat_get Cl.cellsLn 8 (fun _ => rfl) ys k hk j hj]
  exact (List.getElem?_eq_getElem (by have : 8 * k + j < (ys.flatMap Cl.cellsLn).length := (by omega); exact this)).symm
 exact ⟨each 0 (by omega), each 1 (by omega), each 2 (by omega), each 3 (by omega), each 4 (by omega), each 5 (by omega), each 6 (by omega), each 7 (by omega)⟩
theorem cat_at (l : List Cl) (x : Nat) (h : x < l.length) : l[x] = cAt l x := by simp [cAt, List.getD_eq_getElem?_getD, h]
theorem cl_cat {w : World} {b o : Nat} {ys : List Cl} (h : Row w (some ⟨b, o, none⟩) (ys.flatMap Cl.cellsLn)) (k : Nat) (hk : k < ys.length) :
  w.cell? ⟨b, o + k * 8, none⟩ = some (.int .i64 (cAt ys k).w) ∧ w.cell? ⟨b, o + k * 8 + 1, none⟩ = some (.int .i64 (cAt ys k).kind) ∧ w.cell? ⟨b, o + k * 8 + 2, none⟩ = some (.string (cAt ys k).key) ∧ w.cell? ⟨b, o + k * 8 + 3, none⟩ = some (.int .i64 (cAt ys k).value) ∧ w.cell? ⟨b, o + k * 8 + 4, none⟩ = some (.int .i64 (cAt ys k).fr) ∧ w.cell? ⟨b, o + k * 8 + 5, none⟩ = some (.int .i64 (cAt ys k).to) ∧ w.cell? ⟨b, o + k * 8 + 6, none⟩ = some (.int .i64 (cAt ys k).ans) ∧ w.cell? ⟨b, o + k * 8 + 7, none⟩ = some (.int .i64 (cAt ys k).err) := by
 rw [← cat_at ys k hk]; exact cl_cells h k hk
theorem ahead_any (a b : Cl) (w : World) : Calls Tryz.prog 48 #[.agg a.cellsLn.toArray, .agg b.cellsLn.toArray] w fun e w' => e = .returned (.bool (aheadC a b)) ∧ Below w.heap.size w w' := by
 show Calls Tryz.prog 48 #[.agg #[.int .i64 a.w, .int .i64 a.kind, .string a.key, .int .i64 a.value, .int .i64 a.fr, .int .i64 a.to, .int .i64 a.ans, .int .i64 a.err], .agg #[.int .i64 b.w, .int .i64 b.kind, .string b.key, .int .i64 b.value, .int .i64 b.fr, .int .i64 b.to, .int .i64 b.ans, .int .i64 b.err]] w _
 unfold aheadC
 go_enter Tryz.func48, Tryz.ntmps48
 go_wp2
 all_goals (go_ret; refine ⟨ret_bool ?_, (((Below.refl _ _).alloc (Nat.le_refl _) _).alloc (by simp) _)⟩)
 all_goals simp_all
theorem rahead_any (a b : Cl) (w : World) : Calls Tryz.prog 35 #[.agg a.cellsLn.toArray, .agg b.cellsLn.toArray] w fun e w' => e = .returned (.bool (aheadC a b)) ∧ Below w.heap.size w w' := by
 show Calls Tryz.prog 35 #[.agg #[.int .i64 a.w, .int .i64 a.kind, .string a.key, .int .i64 a.value, .int .i64 a.fr, .int .i64 a.to, .int .i64 a.ans, .int .i64 a.err], .agg #[.int .i64 b.w, .int .i64 b.kind, .string b.key, .int .i64 b.value, .int .i64 b.fr, .int .i64 b.to, .int .i64 b.ans, .int .i64 b.err]] w _
 unfold aheadC
 go_enter Tryz.func35, Tryz.ntmps35
 go_wp2
 all_goals (go_ret; refine ⟨ret_bool ?_, (((Below.refl _ _).alloc (Nat.le_refl _) _).alloc (by simp) _)⟩)
 all_goals simp_all
open Classical in
noncomputable def oneB (c : Cl) : Bool := decide (OneC c)
theorem one_yes {c : Cl} (h : OneC c) : true = oneB c := by unfold oneB; simp [h]
theorem one_no {c : Cl} (h : ¬ OneC c) : false = oneB c := by unfold oneB; simp [h]
theorem oneB_iff {c : Cl} : oneB c = true ↔ OneC c := by unfold oneB; simp
theorem by_val {x r : Bool} (h1 : x = true → true = r) (h2 : x = false → false = r) : x = r := by cases x; exact h2 rfl; exact h1 rfl
end Go.Proofs.YtabkmdhkfbcldaaGreat
namespace Go.Proofs.YtabkmdhkfbcldaaGreat
open Go.RowKit
theorem alook_aset {κ β : Type} [DecidableEq κ] (m : List (κ × β)) (x : κ) (u : β) (y : κ) : alook (aset m x u) y = if y = x then some u else alook m y := by
 induction m with
 | nil => simp [aset, alook]
 | cons p r ih =>
  obtain ⟨a, v⟩ := p
  by_cases hx : x = a
  ·subst hx
   simp only [aset, if_true, alook]
   by_cases hy : y = x
   ·rw [if_pos hy, if_pos hy]
   ·rw [if_neg hy, if_neg hy, if_neg hy]
  ·simp only [aset, if_neg hx, alook, ih]
   by_cases hy : y = a
   ·subst hy
    rw [if_pos rfl, if_neg (Ne.symm hx), if_pos rfl]
   ·rw [if_neg hy, if_neg hy]
abbrev WM := List (Int × Value)
def wmV (m : WM) (k : Int) : Value := (alook m k).getD (.slice none 0 0)
structure WInv (w : World) (base : Nat) (m : WM) (q : List Cl) : Prop where
 own : ∀ k, ∃ ys : List Cl, ys.Perm (ownW q k) ∧ w.ownsRow base 35 8 (wmV m k) ys.length (ys.flatMap Cl.cellsLn)
 apart : ∀ k j, k ≠ j → Apart (wmV m k) (wmV m j)
theorem wmV_set (m : WM) (x : Int) (v : Value) (k : Int) : wmV (aset m x v) k = if k = x then v else wmV m k := by
 unfold wmV
 rw [alook_aset]
 by_cases h : k = x
 ·simp [h]
 ·simp [h]
theorem ownW_snoc (q : List Cl) (c : Cl) (k : Int) : ownW (q ++ [c]) k = if c.w = k then ownW q k ++ [c] else ownW q k := by
 unfold ownW
 rw [List.filter_append]
 by_cases h : c.w = k
 ·simp [h]
 ·simp [h]
theorem WInv.nil (w : World) (base : Nat) : WInv w base [] [] :=
 ⟨fun k => ⟨[], List.Perm.refl _, rfl, .inl ⟨rfl, rfl⟩⟩, fun k j _ => Apart.nil _⟩
theorem WInv.app {w w' : World} {base : Nat} {m : WM} {q : List Cl} {c : Cl} {v' : Value} {ys : List Cl} (h : WInv w base m q) (hg : w.grownBy w' (wmV m c.w).ownBlock) (hs : Stayed w (wmV m c.w) v') (hp : ys.Perm (ownW q c.w))
  (ho : w'.ownsRow base 35 8 v' (ys.length + 1) (ys.flatMap Cl.cellsLn ++ c.cellsLn)) : WInv w' base (aset m c.w v') (q ++ [c]) := by
 refine ⟨fun k => ?_, fun k j hkj => ?_⟩
 ·rw [wmV_set, ownW_snoc]
  by_cases e : k = c.w
  ·subst e
   rw [if_pos rfl, if_pos rfl]
   exact ⟨ys ++ [c], hp.append (List.Perm.refl _), by simpa using ho⟩
  ·rw [if_neg e, if_neg (fun e2 => e e2.symm)]
   obtain ⟨zs, h1, h2⟩ := h.own k
   exact ⟨zs, h1, own_kept h2 hg (h.apart k c.w e)⟩
 ·rw [wmV_set, wmV_set]
  by_cases e : k = c.w
  ·rw [if_pos e]
   by_cases e2 : j = c.w
   ·exact absurd (e.trans e2.symm) hkj
   ·rw [if_neg e2]
    obtain ⟨zs, h1, h2⟩ := h.own j
    exact (h.apart c.w j (Ne.symm e2)).stayed hs (own_lt h2)
  ·rw [if_neg e]
   by_cases e2 : j = c.w
   ·rw [if_pos e2]
    obtain ⟨zs, h1, h2⟩ := h.own k
    exact ((h.apart c.w k (Ne.symm e)).stayed hs (own_lt h2)).symm
   ·rw [if_neg e2]
    exact h.apart k j hkj
theorem WInv.sort {w w' : World} {base : Nat} {m : WM} {q : List Cl} {k : Int} {ys : List Cl} (h : WInv w base m q) (hg : w.grownBy w' (wmV m k).ownBlock) (hp : ys.Perm (ownW q k))
  (ho : w'.ownsRow base 35 8 (wmV m k) ys.length (ys.flatMap Cl.cellsLn)) : WInv w' base m q := by
 refine ⟨fun j => ?_, h.apart⟩
 by_cases e : j = k
 ·subst e; exact ⟨ys, hp, ho⟩
 ·obtain ⟨zs, h1, h2⟩ := h.own j
  exact ⟨zs, h1, own_kept h2 hg (h.apart j k e)⟩
theorem WInv.keptO {w w' : World} {base b : Nat} {m : WM} {q : List Cl} {o : Obj} (h : WInv w base m q) (hg : w.grownBy w' (some b)) (hl : w.heap[b]? = some o) (ho : o.isCells = false) : WInv w' base m q :=
 ⟨fun k => by obtain ⟨zs, h1, h2⟩ := h.own k; exact ⟨zs, h1, own_keptO h2 hg hl ho⟩, h.apart⟩
theorem WInv.below {w w' : World} {base : Nat} {m : WM} {q : List Cl} (h : WInv w base m q) (hb : Below w.heap.size w w') : WInv w' base m q :=
 ⟨fun k => by obtain ⟨zs, h1, h2⟩ := h.own k; exact ⟨zs, h1, own_below h2 hb⟩, h.apart⟩
end Go.Proofs.YtabkmdhkfbcldaaGreat
namespace Go.Proofs.YtabkmdhkfbcldaaGreat
open Go.RowKit Go.Lib Go.Sort
theorem own_putRow {β : Type} [Inhabited β] (enc : β → Value) {w : World} {base g n c size : Nat} {e : TypeId} {xs : List Value} (h : w.ownsRow base e size (.slice (some ⟨g, 0, none⟩) n c) n xs) (d : Array β) (hd : d.size = n * size) (m : Nat) (os : Array Obj) :
  (grow (putRow enc (Sort.ahead w m) g 0 d) os).ownsRow base e size (.slice (some ⟨g, 0, none⟩) n c) n (d.toList.map enc) ∧ w.grownBy (grow (putRow enc (Sort.ahead w m) g 0 d) os) (some g) := by
 rcases h.2 with ⟨h0, _⟩ | ⟨g', cap', cur, hv, hge, hh, hn, hcap, hsz, htake⟩
 ·cases h0
 ·cases hv
  have hlt : g < w.heap.size := (Array.getElem?_eq_some_iff.1 hh).1
  have hhb : ∀ k, k < w.heap.size → (grow (putRow enc (Sort.ahead w m) g 0 d) os).heap[k]? = (putRow enc (Sort.ahead w m) g 0 d).heap[k]? := fun k hk => by
   show ((putRow enc (Sort.ahead w m) g 0 d).heap ++ os)[k]? = _
   rw [Array.getElem?_append_left]
   show k < (w.heap.modify g _).size
   simpa using hk
  have hg : (grow (putRow enc (Sort.ahead w m) g 0 d) os).heap[g]? = some (.cells (putCells enc 0 d cur) e (0, 0)) := by
   rw [hhb g hlt]
   show (w.heap.modify g (onCells (putCells enc 0 d)))[g]? = _
   rw [Array.getElem?_modify, if_pos rfl, hh]; rfl
  have hlen : n * size ≤ cur.size := by rw [hsz]; exact Nat.mul_le_mul_right _ hn
  refine ⟨⟨by simpa using hd, .inr ⟨g, c, putCells enc 0 d cur, rfl, hge, hg, hn, hcap, by unfold putCells; simpa using hsz, ?_⟩⟩, ?_⟩
  ·refine List.ext_getElem (by simp [putCells, hd]; omega) fun i h1 h2 => ?_
   have hi : i < d.size := by simpa using h2
   have : i < cur.size := by omega
   simp only [List.getElem_take, Array.getElem_toList, List.getElem_map]
   unfold putCells
   rw [Array.getElem_mapIdx, if_pos ⟨Nat.zero_le _, by omega⟩, Nat.sub_zero, getElem!_pos d i hi]
  ·refine ⟨rfl, rfl, rfl, ?_, fun k hk hne => ?_⟩
   ·show _ ≤ ((w.heap.modify g _) ++ os).size
    simp
   ·rw [hhb k hk]
    show (w.heap.modify g _)[k]? = _
    rw [Array.getElem?_modify, if_neg (fun e => hne (by rw [e]))]
theorem own_holds {β : Type} [Inhabited β] (enc : β → Value) {w : World} {base g n c size : Nat} {e : TypeId} {xs : List Value} (h : w.ownsRow base e size (.slice (some ⟨g, 0, none⟩) n c) n xs) (d : Array β) (hd : d.toList.map enc = xs) : Holds enc w g 0 d := fun j hj => by
 have hl : j < xs.length := by rw [← hd]; simpa using hj
 obtain ⟨h1, h2⟩ := own_cell h j hl
 have e : xs[j] = enc d[j]! := by
  subst hd
  simp [getElem!_pos d j hj]
 rw [Nat.zero_add]
 exact ⟨by rw [h1, e], h2⟩
theorem flatK_list {α : Type} [Inhabited α] (enc : α → List Value) (k : Nat) (hk : ∀ x, (enc x).length = k) (d : Array α) : (flatK enc k d).toList = d.toList.flatMap enc := by
 have hl : (d.toList.flatMap enc).length = k * d.size := by have := flat_len enc k hk d.toList; simpa using this
 refine List.ext_getElem (by rw [hl]; simp [Nat.mul_comm]) fun i h1 h2 => ?_
 have hi : i < d.size * k := by simpa using h1
 have hk0 : 0 < k := Nat.pos_of_ne_zero (fun e => by subst e; simp at hi)
 have hq : i / k < d.size := Nat.div_lt_of_lt_mul (by rw [Nat.mul_comm]; exact hi)
 have hr : i % k < k := Nat.mod_lt _ hk0
 have e := flat_get enc k hk d.toList (i / k) (by simpa using hq) (i % k) hr
 rw [Nat.div_add_mod, List.getElem?_eq_getElem h2] at e
 have e2 := get_flatK enc k d i hi
 rw [Array.getElem_toList]
 rw [getElem!_pos _ i (by simpa using hi)] at e2
 rw [e2, getElem!_pos d _ hq, getElem!_pos _ (i % k) (by rw [hk]; exact hr)]
 rw [Array.getElem_toList, List.getElem?_eq_getElem (by rw [hk]; exact hr)] at e
 injection e with e
 exact e.symm
theorem perm_all {α : Type} [Inhabited α] {d d' : Array α} (h : PermIn 0 d.size d d') : d'.toList.Perm d.toList := by
 have := h.2.2
 have e1 : d.extract 0 d.size = d := by simp
 have e2 : d'.extract 0 d.size = d' := by rw [← h.1]; simp
 rwa [e1, e2] at this
theorem sorted_all {α : Type} [Inhabited α] {d : Array α} {n : Nat} {lt : α → α → Bool} (hn : d.size = n) (h : SortedIn lt 0 n d) : d.toList.Pairwise (fun a b => lt b a = false) := by
 rw [List.pairwise_iff_getElem]
 intro i j hi hj hij
 have hi' : i < d.size := by simpa using hi
 have hj' : j < d.size := by simpa using hj
 have := h i j (Nat.zero_le _) hij (by omega)
 rwa [getElem!_pos d i hi', getElem!_pos d j hj'] at this
theorem lt_cmp {α : Type} (f : α → Int) (x y : α) : ltOf (fun a b => Lib.compareInt (f a) (f b)) x y = decide (f x < f y) := by
 unfold ltOf Lib.compareInt
 by_cases h1 : f x < f y
 ·simp [h1]
 ·by_cases h2 : f y < f x <;> simp [h1, h2]
theorem swo_cmp {α : Type} (f : α → Int) : SWO (ltOf fun a b : α => Lib.compareInt (f a) (f b)) where
 irrefl x := by rw [lt_cmp]; simp
 trans x y z h1 h2 := by rw [lt_cmp] at *; simp at *; omega
 ntrans x y z h1 h2 := by rw [lt_cmp] at *; simp at *; omega
end Go.Proofs.YtabkmdhkfbcldaaGreat
namespace Go.Proofs.YtabkmdhkfbcldaaGreat
open Go.RowKit Go.Lib Go.Sort
theorem quiet_eq {P : Program} {f : FuncId} {args : Array Value} {w : World} {n : Nat} {v : Value} (h : Calls P f args (w.drewN n) fun e w' => e = .returned v ∧ w' = w.drewN n) : Calls P f args (w.drewN n) fun e w'' => e = .returned v ∧ ∃ m, w'' = w.drewN m :=
 h.mono fun _ _ ⟨h1, h2⟩ => ⟨h1, n, h2⟩
set_option maxHeartbeats 1000000 in
theorem cmp36_any (l : List Cl) (bl c : Nat) (p : Option Addr) (x y : Nat) (hx : x < l.length) (hy : y < l.length) (W : World) (hcell : W.cell? ⟨bl, 0, none⟩ = some (.slice p l.length c)) (hrow : Row W p (l.flatMap Cl.cellsLn)) :
  Calls Tryz.prog 51 #[.int .i64 (x : Int), .int .i64 (y : Int), .pointer (some ⟨bl, 0, none⟩)] W fun e w' => e = .returned (.int .i64 (Lib.compareInt (cAt l x).fr (cAt l y).fr)) ∧ ∃ q, w' = W.drewN q := by
 have hcon := fun W' => Tryz.cmp_Compare_int (cAt l x).fr (cAt l y).fr W'
 have HC := hid hcon
 obtain ⟨b, off, rfl, hbs, _⟩ := hrow.at (by have := flat_len Cl.cellsLn 8 (fun _ => rfl) l; omega)
 have a4 := (cl_cat hrow x hx).2.2.2.2.1
 have b4 := (cl_cat hrow y hy).2.2.2.2.1
 clear hrow hcon
 generalize (cAt l x).fr = fx at a4 HC ⊢
 generalize (cAt l y).fr = fy at b4 HC ⊢
 generalize Lib.compareInt fx fy = r at HC ⊢
 generalize l.length = n at hx hy hcell
 have h1 : decide ((x : Int) < 0) = false := decide_eq_false (by omega)
 have h2 : decide ((y : Int) < 0) = false := decide_eq_false (by omega)
 have h3 : decide ((n : Int) ≤ (x : Int)) = false := decide_eq_false (by omega)
 have h4 : decide ((n : Int) ≤ (y : Int)) = false := decide_eq_false (by omega)
 have h5 : decide (n ≤ x) = false := decide_eq_false (by omega)
 have h6 : decide (n ≤ y) = false := decide_eq_false (by omega)
 go_enter Tryz.func51, Tryz.ntmps51
 go_wp2
 go_quiet ((go_at_call 47; exact quiet_eq (HC.out _)))
 go_wp2
 go_ret
 exact ⟨rfl, _, rfl⟩
theorem cmp30_any (a b : Cl) (W : World) : Calls Tryz.prog 46 #[.agg a.cellsLn.toArray, .agg b.cellsLn.toArray] W fun e w' => e = .returned (.int .i64 (Lib.compareInt a.fr b.fr)) ∧ ∃ q os', w' = grow (W.drewN q) os' := by
 have hcon := fun W' => Tryz.cmp_Compare_int a.fr b.fr W'
 have HC := hid hcon
 show Calls Tryz.prog 46 #[.agg #[.int .i64 a.w, .int .i64 a.kind, .string a.key, .int .i64 a.value, .int .i64 a.fr, .int .i64 a.to, .int .i64 a.ans, .int .i64 a.err], .agg #[.int .i64 b.w, .int .i64 b.kind, .string b.key, .int .i64 b.value, .int .i64 b.fr, .int .i64 b.to, .int .i64 b.ans, .int .i64 b.err]] W _
 clear hcon
 generalize Lib.compareInt a.fr b.fr = r at HC ⊢
 go_enter Tryz.func46, Tryz.ntmps46
 go_wp2_with (go_at_call 47; refine (HC.out _).mono ?_; rintro e w' ⟨rfl, rfl⟩)
 go_ret
 exact ⟨rfl, 0, _, by rw [alloc_eq_grow, alloc_eq_grow, grow_grow]; rfl⟩
end Go.Proofs.YtabkmdhkfbcldaaGreat
