/-
 The table in plain words: whose defines the rows are.
 The table in plain words: when nobody can go on.
 run: workers go on as picks say, and then in turn, till nobody can (printed by genrun.py).
 A range over a function within an iterator: an iterator's contract whose own steps may turn blocks of book-keeping that it laid itself; the law of the loop over it.
 A range over a map within a fence, the map's block as it lies: its beginning, its step; what is left of a map.
 maps.Clone; the iterator over a map's keys: what it yields.
 slices.Sort of names, maps.Clone and maps.Keys of values, at calls.
 A range over a function whose values lie in memory: what an iterator tells of each value, what a round leaves as it lay.
 All of the code's table: the names in order, and the function that goes through them.
 All of the code's table: the walk.
 The function that All hands back: what it yields.
 told: the names that are told, and their values, at most so many.
-/
import Derived.Test.YtabkmdhkfbcldaaGreatJL10
import Derived.Test.YtabkmdhkfbcldaaGreatJL5
import Derived.RangeFuncNested
import Derived.RangeFuncBound
import Derived.RangeFuncCalls
import Derived.RangeFuncLeaves
import Derived.Test.YtabkmdhkfbcldaaGreatJL0
import Derived.Maps.RangeRun
import Derived.OwnWalkIn
import Derived.WalkMore
import Derived.LoopNIn
import Derived.LoopIn
import Derived.TacticsInMore
import Derived.Shelf.Abstract
import Derived.Shelf.SlMaps.Clone
import Derived.Test.YtabkmdhkfbcldaaGreatJL2
namespace Go.Proofs.YtabkmdhkfbcldaaGreat
open Go.RowKit
variable {K : Wk} {S : Sh}
structure CallOk (K : Wk) (S : Sh) : Prop where
 hand : ∀ w, w < K.work.length → (S.hand w).at_ ≠ 0 → ∃ fr, cAt S.calls (S.hand w).call = ⟨w, (S.ask K w).kind, (S.ask K w).key, (S.ask K w).value, fr, -1, 0, 0⟩
 opens : ∀ j, j < S.calls.length → (cAt S.calls j).to = -1 → ∃ w, w < K.work.length ∧ (S.hand w).at_ ≠ 0 ∧ (S.hand w).call = j
 tos : ∀ j, j < S.calls.length → (cAt S.calls j).to = -1 ∨ 0 ≤ (cAt S.calls j).to
structure DefOk (K : Wk) (S : Sh) (defs : List Nat) : Prop where
 len : defs.length = S.rows.length
 row : ∀ (i j : Nat) (r : Rw), defs[i]? = some j → S.rows[i]? = some r → j < S.calls.length ∧ (cAt S.calls j).kind = 1 ∧ (cAt S.calls j).key = r.key ∧ (cAt S.calls j).value = r.val ∧ ((cAt S.calls j).to ≠ -1 → (cAt S.calls j).err = 0)
 opn : ∀ j ∈ defs, (cAt S.calls j).to = -1 → ∃ w, w < K.work.length ∧ ((S.hand w).at_ = 3 ∨ (S.hand w).at_ = 4) ∧ (S.hand w).call = j ∧ (S.hand w).found = false
 nd : defs.Nodup
 done : ∀ j, j < S.calls.length → (cAt S.calls j).kind = 1 → (cAt S.calls j).to ≠ -1 → (cAt S.calls j).err = 0 → j ∈ defs
 mine : ∀ w, w < K.work.length → ((S.hand w).at_ = 3 ∨ (S.hand w).at_ = 4) → (S.hand w).found = false → (S.ask K w).kind = 1 → (S.hand w).call ∈ defs
def FOk (K : Wk) (S : Sh) : Prop := CallOk K S ∧ ∃ defs, DefOk K S defs
theorem cAt_set (l : List Cl) (j i : Nat) (c : Cl) (hj : j < l.length) : cAt (l.set j c) i = if i = j then c else cAt l i := getD_set l j hj c cl0 i
theorem cAt_app (l : List Cl) (i : Nat) (c : Cl) : cAt (l ++ [c]) i = if i < l.length then cAt l i else if i = l.length then c else cl0 := by
 unfold cAt
 rw [List.getD_eq_getElem?_getD]
 by_cases h : i < l.length
 ·rw [if_pos h, List.getElem?_append_left h, ← List.getD_eq_getElem?_getD]
 ·rw [if_neg h]
  by_cases e : i = l.length
  ·rw [if_pos e, e]; simp
  ·rw [if_neg e, List.getElem?_eq_none (by simp; omega)]; rfl
theorem start_f (K : Wk) : FOk K (Sh.start K) := by
 have hh : ∀ v, ((Sh.start K).hand v) = hn0 := fun v => getD_rep _ _ _
 refine ⟨⟨fun w _ h => ?_, fun j hj => (by cases hj), fun j hj => (by cases hj)⟩, [], ⟨rfl, fun i j r h => (by simp at h), fun j hj => (by cases hj), List.nodup_nil, fun j hj => (by cases hj), fun w _ h => ?_⟩⟩
 ·rw [hh] at h; exact absurd rfl h
 ·rw [hh] at h; simp [hn0] at h
theorem CallOk.one (h : CallOk K S) {v w : Nat} (hv : v < K.work.length) (hw : w < K.work.length) (hv0 : (S.hand v).at_ ≠ 0) (hw0 : (S.hand w).at_ ≠ 0) (e : (S.hand v).call = (S.hand w).call) : v = w := by
 obtain ⟨f1, e1⟩ := h.hand v hv hv0
 obtain ⟨f2, e2⟩ := h.hand w hw hw0
 rw [e, e2] at e1
 have := congrArg Cl.w e1
 simp at this
 omega
theorem CallOk.same (h : CallOk K S) (S' : Sh) (w : Nat) (hw : w < S.hands.length) (x : Hn) (hh : S'.hands = S.hands.set w x) (hn : S'.next = S.next) (hc : S'.calls = S.calls) (hx : x.call = (S.hand w).call) (h0 : (S.hand w).at_ ≠ 0) (hx0 : x.at_ ≠ 0) : CallOk K S' := by
 have hk := hand_set S' w x hw hh
 have ha : ∀ v, S'.ask K v = S.ask K v := fun v => by unfold Sh.ask; rw [hn]
 refine ⟨fun v hv h1 => ?_, fun j hj h1 => ?_, by rw [hc]; exact h.tos⟩
 ·rw [hk] at h1 ⊢
  rw [hc, ha]
  by_cases e : v = w
  ·subst e; rw [if_pos rfl, hx]; exact h.hand v hv h0
  ·rw [if_neg e] at h1 ⊢; exact h.hand v hv h1
 ·rw [hc] at hj h1
  obtain ⟨v, v1, v2, v3⟩ := h.opens j hj h1
  refine ⟨v, v1, ?_⟩
  rw [hk]
  by_cases e : v = w
  ·subst e; rw [if_pos rfl]; exact ⟨hx0, hx.trans v3⟩
  ·rw [if_neg e]; exact ⟨v2, v3⟩
theorem CallOk.ended {w : Nat} (h : CallOk K S) (hl : w < S.hands.length) (hwl : w < K.work.length) (hnl : w < S.next.length) (S' : Sh) (n e : Int) (hh : S'.hands = S.hands.set w hn0) (hn : S'.next = S.next.set w (S.next.getD w 0 + 1)) (hc : S'.calls = S.calls.set (S.hand w).call { cAt S.calls (S.hand w).call with «to» := S.steps + 1, ans := n, err := e })
  (h0 : (S.hand w).at_ ≠ 0) (hcl : (S.hand w).call < S.calls.length) : CallOk K S' := by
 have hk := hand_set S' w hn0 hl hh
 have ha : ∀ v, v ≠ w → S'.ask K v = S.ask K v := fun v hv => by unfold Sh.ask; rw [hn, getD_set _ _ hnl, if_neg hv]
 refine ⟨fun v hv h1 => ?_, fun j hj h1 => ?_, fun j hj => ?_⟩
 ·rw [hk] at h1 ⊢
  by_cases e : v = w
  ·subst e; rw [if_pos rfl] at h1; simp [hn0] at h1
  ·rw [if_neg e] at h1 ⊢
   rw [hc, ha v e, cAt_set _ _ _ _ hcl, if_neg (fun e2 => e (h.one hv hwl h1 h0 e2))]
   exact h.hand v hv h1
 ·rw [hc, cAt_set _ _ _ _ hcl] at h1
  rw [hc, List.length_set] at hj
  by_cases e : j = (S.hand w).call
  ·rw [if_pos e] at h1; simp at h1; omega
  ·rw [if_neg e] at h1
   obtain ⟨v, v1, v2, v3⟩ := h.opens j hj h1
   have hne : v ≠ w := fun e2 => by subst e2; exact e v3.symm
   exact ⟨v, v1, by rw [hk, if_neg hne]; exact v2, by rw [hk, if_neg hne]; exact v3⟩
 ·rw [hc, List.length_set] at hj
  rw [hc, cAt_set _ _ _ _ hcl]
  by_cases e : j = (S.hand w).call
  ·rw [if_pos e]; exact .inr (by show (0 : Int) ≤ (S.steps : Int) + 1; omega)
  ·rw [if_neg e]; exact h.tos j hj
theorem CallOk.begun {w : Nat} (h : CallOk K S) (hl : w < S.hands.length) (hwl : w < K.work.length) (S' : Sh) (hh : S'.hands = S.hands.set w ⟨1, false, S.calls.length⟩) (hn : S'.next = S.next) (hc : S'.calls = S.calls ++ [⟨w, (S.ask K w).kind, (S.ask K w).key, (S.ask K w).value, S.steps, -1, 0, 0⟩])
  (h0 : (S.hand w).at_ = 0) (hin : ∀ v, v < K.work.length → (S.hand v).at_ ≠ 0 → (S.hand v).call < S.calls.length) : CallOk K S' := by
 have hk := hand_set S' w _ hl hh
 have ha : ∀ v, S'.ask K v = S.ask K v := fun v => by unfold Sh.ask; rw [hn]
 refine ⟨fun v hv h1 => ?_, fun j hj h1 => ?_, fun j hj => ?_⟩
 ·rw [hk] at h1 ⊢
  rw [ha, hc]
  by_cases e : v = w
  ·subst e; rw [if_pos rfl]
   refine ⟨S.steps, ?_⟩
   rw [cAt_app, if_neg (Nat.lt_irrefl _), if_pos rfl]
  ·rw [if_neg e] at h1 ⊢
   rw [cAt_app, if_pos (hin v hv h1)]
   exact h.hand v hv h1
 ·rw [hc, cAt_app] at h1
  rw [hc, List.length_append] at hj
  simp at hj
  by_cases e : j < S.calls.length
  ·rw [if_pos e] at h1
   obtain ⟨v, v1, v2, v3⟩ := h.opens j e h1
   have hne : v ≠ w := fun e2 => by subst e2; exact v2 h0
   exact ⟨v, v1, by rw [hk, if_neg hne]; exact v2, by rw [hk, if_neg hne]; exact v3⟩
  ·have e2 : j = S.calls.length := by omega
   exact ⟨w, hwl, by rw [hk, if_pos rfl]; simp, by rw [hk, if_pos rfl]; exact e2.symm⟩
 ·rw [hc, List.length_append] at hj
  simp at hj
  rw [hc, cAt_app]
  by_cases e : j < S.calls.length
  ·rw [if_pos e]; exact h.tos j e
  ·rw [if_neg e, if_pos (by omega)]; exact .inl rfl
theorem DefOk.same {defs : List Nat} (h : DefOk K S defs) (S' : Sh) (w : Nat) (hw : w < S.hands.length) (x : Hn) (hh : S'.hands = S.hands.set w x) (hn : S'.next = S.next) (hc : S'.calls = S.calls) (hr : S'.rows.map (fun r => (r.key, r.val)) = S.rows.map (fun r => (r.key, r.val))) (hx : x.call = (S.hand w).call)
  (h1 : ((S.hand w).at_ = 3 ∨ (S.hand w).at_ = 4) ∧ (S.hand w).found = false ∧ (S.ask K w).kind = 1 → (x.at_ = 3 ∨ x.at_ = 4) ∧ x.found = false) (h2 : (x.at_ = 3 ∨ x.at_ = 4) → x.found = false → (S.ask K w).kind = 1 → ((S.hand w).at_ = 3 ∨ (S.hand w).at_ = 4) ∧ (S.hand w).found = false) (hC : CallOk K S) : DefOk K S' defs := by
 have hk := hand_set S' w x hw hh
 have ha : ∀ v, S'.ask K v = S.ask K v := fun v => by unfold Sh.ask; rw [hn]
 have hrl : S'.rows.length = S.rows.length := by have := congrArg List.length hr; simpa using this
 refine ⟨by rw [hrl]; exact h.len, fun i j r hi hri => ?_, fun j hj ho => ?_, h.nd, by rw [hc]; exact h.done, fun v hv h3 hf hkd => ?_⟩
 ·have hri2 : (S.rows[i]?).map (fun r => (r.key, r.val)) = some (r.key, r.val) := by
   rw [← List.getElem?_map, ← hr, List.getElem?_map, hri]; rfl
  cases hr2 : S.rows[i]? with
  | none => rw [hr2] at hri2; cases hri2
  | some r2 =>
   rw [hr2] at hri2
   simp at hri2
   rw [hc, ← hri2.1, ← hri2.2]
   exact h.row i j r2 hi hr2
 ·rw [hc] at ho
  obtain ⟨v, v1, v2, v3, v4⟩ := h.opn j hj ho
  refine ⟨v, v1, ?_⟩
  rw [hk]
  by_cases e : v = w
  ·subst e
   rw [if_pos rfl]
   have hkind : (S.ask K v).kind = 1 := by
    obtain ⟨fr, e1⟩ := hC.hand v v1 (by omega)
    obtain ⟨i, hi⟩ := List.getElem?_of_mem hj
    have hil : i < S.rows.length := by rw [← h.len]; exact (List.getElem?_eq_some_iff.1 hi).1
    have := (h.row i j _ hi (List.getElem?_eq_getElem hil)).2.1
    rw [← v3, e1] at this
    exact this
   have := h1 ⟨v2, v4, hkind⟩
   exact ⟨this.1, hx.trans v3, this.2⟩
  ·rw [if_neg e]; exact ⟨v2, v3, v4⟩
 ·rw [hk] at h3 hf ⊢
  rw [ha] at hkd
  by_cases e : v = w
  ·subst e
   rw [if_pos rfl] at h3 hf ⊢
   rw [hx]
   have := h2 h3 hf hkd
   exact h.mine v hv this.1 this.2 hkd
  ·rw [if_neg e] at h3 hf ⊢; exact h.mine v hv h3 hf hkd
theorem FOk.step (HO : ∀ k, K.of k < K.shards) (ho : ShOk K S) (h : FOk K S) (w : Nat) (hc : S.canN K w = true) : FOk K (S.stepN K w) := by
 have hw := can_lt hc
 obtain ⟨hC, defs, hD⟩ := h
 have H := ho.each w hw
 have hnl : w < S.next.length := by rw [ho.nxl]; exact hw
 have hhl : w < S.hands.length := by rw [ho.hnl]; exact hw
 have h5 : (S.hand w).at_ ≤ 5 := by
  by_cases h0 : (S.hand w).at_ = 0
  ·omega
  ·exact (H.inh h0).2.2
 have hin : ∀ v, v < K.work.length → (S.hand v).at_ ≠ 0 → (S.hand v).call < S.calls.length := fun v hv h0 => ((ho.each v hv).inh h0).2.1
 rw [step_is hc]
 unfold Sh.body
 dsimp only
 rcases (show (S.hand w).at_ = 0 ∨ (S.hand w).at_ = 1 ∨ (S.hand w).at_ = 2 ∨ (S.hand w).at_ = 3 ∨ (S.hand w).at_ = 4 ∨ (S.hand w).at_ = 5 by omega) with e | e | e | e | e | e <;> simp only [e]
 ·refine ⟨hC.begun hhl hw _ rfl rfl rfl e hin, defs, ?_⟩
  have hk := hand_set (S := S) { (Sh.setL K { S with calls := S.calls ++ [⟨w, (S.ask K w).kind, (S.ask K w).key, (S.ask K w).value, S.steps, -1, 0, 0⟩] } w w).setH w ⟨1, false, S.calls.length⟩ with steps := S.steps + 1 } w ⟨1, false, S.calls.length⟩ hhl rfl
  have hjl : ∀ j ∈ defs, j < S.calls.length := fun j hj => by
   obtain ⟨i, hi⟩ := List.getElem?_of_mem hj
   have hil : i < S.rows.length := by rw [← hD.len]; exact (List.getElem?_eq_some_iff.1 hi).1
   exact (hD.row i j _ hi (List.getElem?_eq_getElem hil)).1
  have hca : ∀ j, j < S.calls.length → cAt (S.calls ++ [⟨w, (S.ask K w).kind, (S.ask K w).key, (S.ask K w).value, S.steps, -1, 0, 0⟩]) j = cAt S.calls j := fun j hj => by rw [cAt_app, if_pos hj]
  refine ⟨hD.len, fun i j r hi hri => ?_, fun j hj hop => ?_, hD.nd, fun j hj hk1 hto herr => ?_, fun v hv h3 hf hkd => ?_⟩
  ·obtain ⟨q1, q2⟩ := hD.row i j r hi hri
   refine ⟨?_, ?_⟩
   ·show j < (S.calls ++ [_]).length; rw [List.length_append]; omega
   ·have gen : ∀ c, c = cAt S.calls j → c.kind = 1 ∧ c.key = r.key ∧ c.value = r.val ∧ (c.to ≠ -1 → c.err = 0) := fun c hc => by rw [hc]; exact q2
    exact gen _ (hca j q1)
  ·have hop : (cAt (S.calls ++ [_]) j).to = -1 := hop
   rw [hca j (hjl j hj)] at hop
   obtain ⟨v, v1, v2, v3, v4⟩ := hD.opn j hj hop
   have hne : v ≠ w := fun e2 => by subst e2; omega
   exact ⟨v, v1, by rw [hk, if_neg hne]; exact v2, by rw [hk, if_neg hne]; exact v3, by rw [hk, if_neg hne]; exact v4⟩
  ·have hj : j < (S.calls ++ [_]).length := hj
   rw [List.length_append] at hj
   simp at hj
   have hto : (cAt (S.calls ++ [_]) j).to ≠ -1 := hto
   have hk1 : (cAt (S.calls ++ [_]) j).kind = 1 := hk1
   have herr : (cAt (S.calls ++ [_]) j).err = 0 := herr
   by_cases e2 : j < S.calls.length
   ·rw [hca j e2] at hto hk1 herr
    exact hD.done j e2 hk1 hto herr
   ·rw [cAt_app, if_neg e2, if_pos (by omega)] at hto
    exact absurd rfl hto
  ·rw [hk] at h3 hf ⊢
   by_cases e2 : v = w
   ·subst e2; rw [if_pos rfl] at h3; simp at h3
   ·rw [if_neg e2] at h3 hf ⊢; exact hD.mine v hv h3 hf hkd
 ·refine ⟨hC.same _ w hhl ⟨if (S.ask K w).kind = 1 ∧ S.get (S.ask K w).key = none then 2 else 4, (S.get (S.ask K w).key).isSome, (S.hand w).call⟩ rfl rfl rfl rfl (by omega) (by dsimp only; split <;> omega), defs, ?_⟩
  refine hD.same _ w hhl ⟨if (S.ask K w).kind = 1 ∧ S.get (S.ask K w).key = none then 2 else 4, (S.get (S.ask K w).key).isSome, (S.hand w).call⟩ rfl rfl rfl rfl rfl (fun h => by omega) (fun h1 h2 h3 => ?_) hC
  dsimp only at h1 h2
  have hg : S.get (S.ask K w).key = none := by
   cases hg : S.get (S.ask K w).key with
   | none => rfl
   | some v => rw [hg] at h2; cases h2
  rw [if_pos ⟨h3, hg⟩] at h1
  omega
 ·obtain ⟨t1, t2, t3⟩ := H.two e
  have hcl := hin w hw (by omega)
  obtain ⟨fr, hcw⟩ := hC.hand w hw (by omega)
  refine ⟨hC.same _ w hhl ⟨3, (S.hand w).found, (S.hand w).call⟩ rfl rfl rfl rfl (by omega) (by simp), defs ++ [(S.hand w).call], ?_⟩
  have hk := hand_set (S := S) { (({ S with rows := S.rows ++ [⟨(S.ask K w).key, (S.ask K w).value, false⟩] } : Sh).setH w { S.hand w with at_ := 3 }) with steps := S.steps + 1 } w ⟨3, (S.hand w).found, (S.hand w).call⟩ hhl rfl
  have hnew : (S.hand w).call ∉ defs := fun hm => by
   obtain ⟨v, v1, v2, v3, v4⟩ := hD.opn _ hm (by rw [hcw])
   have hvw := hC.one v1 hw (by omega) (by omega) v3
   subst hvw; omega
  refine ⟨?_, fun i j r hi hri => ?_, fun j hj hop => ?_, ?_, fun j hj hk1 hto herr => List.mem_append_left _ (hD.done j hj hk1 hto herr), fun v hv h3 hf hkd => ?_⟩
  ·show (defs ++ [_]).length = (S.rows ++ [_]).length
   rw [List.length_append, List.length_append, hD.len]; rfl
  ·have hri : (S.rows ++ [(⟨(S.ask K w).key, (S.ask K w).value, false⟩ : Rw)])[i]? = some r := hri
   by_cases hil : i < S.rows.length
   ·rw [List.getElem?_append_left hil] at hri
    rw [List.getElem?_append_left (by rw [hD.len]; exact hil)] at hi
    exact hD.row i j r hi hri
   ·have hie : i = S.rows.length := by
     have := (List.getElem?_eq_some_iff.1 hri).1
     simp at this; omega
    subst hie
    have h1 : r = ⟨(S.ask K w).key, (S.ask K w).value, false⟩ := by simpa using hri.symm
    have h2 : j = (S.hand w).call := by rw [← hD.len] at hi; simpa using hi.symm
    subst h1 h2
    have gen : ∀ c, c = (⟨w, (S.ask K w).kind, (S.ask K w).key, (S.ask K w).value, fr, -1, 0, 0⟩ : Cl) → c.kind = 1 ∧ c.key = (S.ask K w).key ∧ c.value = (S.ask K w).value ∧ (c.to ≠ -1 → c.err = 0) := fun c hc => by rw [hc]; exact ⟨t1, rfl, rfl, fun h => absurd rfl h⟩
    exact ⟨hcl, gen _ hcw⟩
  ·rcases List.mem_append.1 hj with hj | hj
   ·obtain ⟨v, v1, v2, v3, v4⟩ := hD.opn j hj hop
    have hne : v ≠ w := fun e2 => by subst e2; omega
    exact ⟨v, v1, by rw [hk, if_neg hne]; exact v2, by rw [hk, if_neg hne]; exact v3, by rw [hk, if_neg hne]; exact v4⟩
   ·simp at hj
    subst hj
    exact ⟨w, hw, by rw [hk, if_pos rfl]; exact .inl rfl, by rw [hk, if_pos rfl], by rw [hk, if_pos rfl]; exact t3⟩
  ·rw [List.nodup_append]
   exact ⟨hD.nd, by simp, fun a ha b hb => by simp at hb; subst hb; exact fun e2 => hnew (e2 ▸ ha)⟩
  ·rw [hk] at h3 hf ⊢
   by_cases e2 : v = w
   ·subst e2; rw [if_pos rfl]; simp
   ·rw [if_neg e2] at h3 hf ⊢; exact List.mem_append_left _ (hD.mine v hv h3 hf hkd)
 ·refine ⟨hC.same _ w hhl ⟨4, (S.hand w).found, (S.hand w).call⟩ rfl rfl rfl rfl (by omega) (by simp), defs, ?_⟩
  refine hD.same _ w hhl ⟨4, (S.hand w).found, (S.hand w).call⟩ rfl rfl rfl ?_ rfl (fun h => ⟨.inr rfl, h.2.1⟩) (fun h1 h2 h3 => ⟨.inl e, h2⟩) hC
  show (S.rows.map (tellR (S.ask K w).key)).map _ = _
  rw [List.map_map]
  refine List.map_congr_left fun r _ => ?_
  show ((tellR (S.ask K w).key r).key, (tellR (S.ask K w).key r).val) = _
  rw [tellR_key, tellR_val]
 ·have hcl := hin w hw (by omega)
  obtain ⟨fr, hcw⟩ := hC.hand w hw (by omega)
  have hend : ∀ (S' : Sh) (n er : Int), S'.hands = S.hands.set w hn0 → S'.next = S.next.set w (S.next.getD w 0 + 1) → S'.calls = S.calls.set (S.hand w).call { cAt S.calls (S.hand w).call with «to» := S.steps + 1, ans := n, err := er } → S'.rows = S.rows →
    ((S.ask K w).kind = 1 → ((S.hand w).found = false → er = 0) ∧ ((S.hand w).found = true → er ≠ 0)) → FOk K S' := fun S' n er e1 e2 e3 e4 e5 => by
   have hk := hand_set S' w hn0 hhl e1
   have ha : ∀ v, v ≠ w → S'.ask K v = S.ask K v := fun v hv => by unfold Sh.ask; rw [e2, getD_set _ _ hnl, if_neg hv]
   refine ⟨hC.ended hhl hw hnl S' n er e1 e2 e3 (by omega) hcl, defs, ?_⟩
   have hcs : ∀ j, j ≠ (S.hand w).call → cAt S'.calls j = cAt S.calls j := fun j hj => by rw [e3, cAt_set _ _ _ _ hcl, if_neg hj]
   have hcm : cAt S'.calls (S.hand w).call = { cAt S.calls (S.hand w).call with «to» := S.steps + 1, ans := n, err := er } := by rw [e3, cAt_set _ _ _ _ hcl, if_pos rfl]
   have hkm : (S.hand w).call ∈ defs → (S.ask K w).kind = 1 ∧ (S.hand w).found = false := fun hm => by
    obtain ⟨i, hi⟩ := List.getElem?_of_mem hm
    have hil : i < S.rows.length := by rw [← hD.len]; exact (List.getElem?_eq_some_iff.1 hi).1
    have h1 := (hD.row i _ _ hi (List.getElem?_eq_getElem hil)).2.1
    rw [hcw] at h1
    obtain ⟨v, v1, v2, v3, v4⟩ := hD.opn _ hm (by rw [hcw])
    have hvw := hC.one v1 hw (by omega) (by omega) v3
    subst hvw
    exact ⟨h1, v4⟩
   refine ⟨by rw [e4]; exact hD.len, fun i j r hi hri => ?_, fun j hj hop => ?_, hD.nd, fun j hj hk1 hto herr => ?_, fun v hv h3 hf hkd => ?_⟩
   ·rw [e4] at hri
    obtain ⟨q1, q2, q3, q4, q5⟩ := hD.row i j r hi hri
    refine ⟨by rw [e3, List.length_set]; exact q1, ?_⟩
    by_cases hj : j = (S.hand w).call
    ·subst hj
     rw [hcm]
     obtain ⟨m1, m2⟩ := hkm (List.mem_of_getElem? hi)
     exact ⟨q2, q3, q4, fun _ => (e5 m1).1 m2⟩
    ·rw [hcs j hj]; exact ⟨q2, q3, q4, q5⟩
   ·by_cases hj2 : j = (S.hand w).call
    ·subst hj2
     rw [hcm] at hop
     have hop : (S.steps : Int) + 1 = -1 := hop
     omega
    ·rw [hcs j hj2] at hop
     obtain ⟨v, v1, v2, v3, v4⟩ := hD.opn j hj hop
     have hne : v ≠ w := fun e2 => by subst e2; exact hj2 v3.symm
     exact ⟨v, v1, by rw [hk, if_neg hne]; exact v2, by rw [hk, if_neg hne]; exact v3, by rw [hk, if_neg hne]; exact v4⟩
   ·rw [e3, List.length_set] at hj
    by_cases hj2 : j = (S.hand w).call
    ·subst hj2
     rw [hcm] at hk1 herr
     have herr : er = 0 := herr
     have hk1 : (cAt S.calls (S.hand w).call).kind = 1 := hk1
     rw [hcw] at hk1
     have hff : (S.hand w).found = false := by
      cases hf : (S.hand w).found with
      | false => rfl
      | true => exact absurd herr ((e5 hk1).2 hf)
     exact hD.mine w hw (.inr e) hff hk1
    ·rw [hcs j hj2] at hk1 hto herr
     exact hD.done j hj hk1 hto herr
   ·rw [hk] at h3 hf ⊢
    by_cases e2 : v = w
    ·subst e2; rw [if_pos rfl] at h3; simp [hn0] at h3
    ·rw [if_neg e2] at h3 hf ⊢
     rw [ha v e2] at hkd
     exact hD.mine v hv h3 hf hkd
  unfold endOf2
  by_cases hk1 : (S.ask K w).kind = 1
  ·rw [if_pos hk1]
   refine hend _ 0 (if (S.hand w).found = true then 5 else 0) rfl rfl rfl rfl (fun _ => ⟨fun hf => ?_, fun hf => ?_⟩)
   ·rw [hf]; rfl
   ·rw [hf]; decide
  ·rw [if_neg hk1]
   cases hf : (S.hand w).found with
   | true => exact hend _ ((S.get (S.ask K w).key).getD 0) 0 rfl rfl rfl rfl (fun h => absurd h hk1)
   | false =>
    by_cases hk2 : (S.ask K w).kind = 2
    ·simp only [Bool.false_eq_true, if_false, if_pos hk2]
     exact hend _ 0 4 rfl rfl rfl rfl (fun h => absurd h hk1)
    ·simp only [Bool.false_eq_true, if_false, if_neg hk2]
     refine ⟨hC.same _ w hhl ⟨5, false, (S.hand w).call⟩ rfl rfl rfl rfl (by omega) (by simp), defs, ?_⟩
     exact hD.same _ w hhl ⟨5, false, (S.hand w).call⟩ rfl rfl rfl rfl rfl (fun h => absurd h.2.2 hk1) (fun h1 _ _ => by simp at h1) hC
 ·have hcl := hin w hw (by omega)
  obtain ⟨fr, hcw⟩ := hC.hand w hw (by omega)
  obtain ⟨n1, n2⟩ := H.five e
  have hk := hand_set (S := S) { (S.endN w ((S.get (S.ask K w).key).getD 0) 0) with steps := S.steps + 1 } w hn0 hhl rfl
  have hcs : ∀ j, j ≠ (S.hand w).call → cAt (S.endN w ((S.get (S.ask K w).key).getD 0) 0).calls j = cAt S.calls j := fun j hj => by
   show cAt (S.calls.set _ _) j = _
   rw [cAt_set _ _ _ _ hcl, if_neg hj]
  have hcm : (cAt (S.endN w ((S.get (S.ask K w).key).getD 0) 0).calls (S.hand w).call).kind ≠ 1 := by
   show (cAt (S.calls.set _ _) _).kind ≠ 1
   rw [cAt_set _ _ _ _ hcl, if_pos rfl, hcw]; exact n1
  have hnm : (S.hand w).call ∉ defs := fun hm => by
   obtain ⟨i, hi⟩ := List.getElem?_of_mem hm
   have hil : i < S.rows.length := by rw [← hD.len]; exact (List.getElem?_eq_some_iff.1 hi).1
   have h1 := (hD.row i _ _ hi (List.getElem?_eq_getElem hil)).2.1
   rw [hcw] at h1
   exact n1 h1
  refine ⟨hC.ended hhl hw hnl _ ((S.get (S.ask K w).key).getD 0) 0 rfl rfl rfl (by omega) hcl, defs, ?_⟩
  refine ⟨hD.len, fun i j r hi hri => ?_, fun j hj hop => ?_, hD.nd, fun j hj hk1 hto herr => ?_, fun v hv h3 hf hkd => ?_⟩
  ·obtain ⟨q1, q2⟩ := hD.row i j r hi hri
   have hj2 : j ≠ (S.hand w).call := fun e2 => hnm (e2 ▸ List.mem_of_getElem? hi)
   refine ⟨by show j < (S.calls.set _ _).length; rw [List.length_set]; exact q1, ?_⟩
   show (cAt (S.endN w ((S.get (S.ask K w).key).getD 0) 0).calls j).kind = 1 ∧ _
   rw [hcs j hj2]; exact q2
  ·have hj2 : j ≠ (S.hand w).call := fun e2 => hnm (e2 ▸ hj)
   have hop : (cAt (S.endN w ((S.get (S.ask K w).key).getD 0) 0).calls j).to = -1 := hop
   rw [hcs j hj2] at hop
   obtain ⟨v, v1, v2, v3, v4⟩ := hD.opn j hj hop
   have hne : v ≠ w := fun e2 => by subst e2; omega
   exact ⟨v, v1, by rw [hk, if_neg hne]; exact v2, by rw [hk, if_neg hne]; exact v3, by rw [hk, if_neg hne]; exact v4⟩
  ·have hk1 : (cAt (S.endN w ((S.get (S.ask K w).key).getD 0) 0).calls j).kind = 1 := hk1
   have hto : (cAt (S.endN w ((S.get (S.ask K w).key).getD 0) 0).calls j).to ≠ -1 := hto
   have herr : (cAt (S.endN w ((S.get (S.ask K w).key).getD 0) 0).calls j).err = 0 := herr
   have hj : j < (S.calls.set _ _).length := hj
   rw [List.length_set] at hj
   by_cases hj2 : j = (S.hand w).call
   ·subst hj2; exact absurd hk1 hcm
   ·rw [hcs j hj2] at hk1 hto herr
    exact hD.done j hj hk1 hto herr
  ·rw [hk] at h3 hf ⊢
   by_cases e2 : v = w
   ·subst e2; rw [if_pos rfl] at h3; simp [hn0] at h3
   ·rw [if_neg e2] at h3 hf ⊢
    have ha : ({ (S.endN w ((S.get (S.ask K w).key).getD 0) 0) with steps := S.steps + 1 } : Sh).ask K v = S.ask K v := by
     show (K.own v).getD ((S.next.set w _).getD v 0) ak0 = _
     rw [getD_set _ _ hnl, if_neg e2]; rfl
    rw [ha] at hkd
    exact hD.mine v hv h3 hf hkd
end Go.Proofs.YtabkmdhkfbcldaaGreat
namespace Go.Proofs.YtabkmdhkfbcldaaGreat
open Go.RowKit
variable {K : Wk} {S : Sh}
theorem cAt_get (l : List Cl) (i : Nat) (h : i < l.length) : cAt l i = l[i] := by unfold cAt; simp [List.getD_eq_getElem?_getD, h]
end Go.Proofs.YtabkmdhkfbcldaaGreat
namespace Go.Proofs.YtabkmdhkfbcldaaGreat
open Go.RowKit
variable {w w' : World} {K : Wk}
structure RunJ (w0 : World) (K : Wk) (M base t : Nat) (J : Sh → World → Prop) (J1 : Sh → Int → World → Prop) (g : Nat) (ar : Int → Array Value) : Prop where
 tok : ∀ S W, J S W → ∃ B, TOk W base t K S B
 bel : ∀ S W, J S W → Below w0.heap.size w0 W
 below : ∀ S W W', J S W → Below W.heap.size W W' → J S W'
 step : ∀ S W (v : Int), J S W → RunOk K M S → Calls Tryz.prog 7 #[.pointer (some ⟨t, 0, none⟩), .int .i64 v] W fun e W' => e = .returned (.tuple #[]) ∧ J1 S v W'
 each : ∀ S W (v : Int), 0 ≤ v → v ≤ K.work.length → J1 S v W → RunOk K M S → Calls Tryz.prog g (ar v) W fun e W' => e = .returned (.bool true) ∧ J (S.stepI K v) W'
structure RunI (K : Wk) (M : Nat) (J : Sh → World → Prop) (S S' : Sh) (W : World) : Prop where
 j : J S' W
 ok : RunOk K M S'
 r : Reach K S S'
def RunPost (K : Wk) (M : Nat) (J : Sh → World → Prop) (S : Sh) (e : Ending) (w' : World) : Prop :=
 e = .returned (.bool true) ∧ ∃ S', RunI K M J S S' w' ∧ ∀ v, v < K.work.length → S'.canN K v = false
theorem RunI.below {w0 : World} {M base t g : Nat} {J : Sh → World → Prop} {J1 : Sh → Int → World → Prop} {ar : Int → Array Value} {S S' : Sh} {W W' : World} (H : RunJ w0 K M base t J J1 g ar) (h : RunI K M J S S' W) (hb : Below W.heap.size W W') : RunI K M J S S' W' :=
 ⟨H.below _ _ _ h.j hb, h.ok, h.r⟩
theorem RunI.next {M : Nat} {J : Sh → World → Prop} {S S' : Sh} {W W' : World} (HO : ∀ k, K.of k < K.shards) (h : RunI K M J S S' W) (v : Int) (hj : J (S'.stepI K v) W') : RunI K M J S (S'.stepI K v) W' :=
 ⟨hj, h.ok.stepI HO v, h.r.trans (Reach.stepI h.ok.ok v)⟩
theorem stepI_nat (S : Sh) (v : Nat) : S.stepI K (v : Int) = S.stepN K v := by unfold Sh.stepI; rw [if_neg (by omega), Int.toNat_natCast]
theorem doneI_nat (S : Sh) (v : Nat) (hv : v < K.work.length) : S.doneI K (v : Int) = S.doneN K v := by
 unfold Sh.doneI
 rw [Int.toNat_natCast, decide_eq_false (by omega : ¬ (v : Int) < 0), decide_eq_false (by omega : ¬ (K.work.length : Int) ≤ v)]; rfl
theorem waitsI_nat (S : Sh) (v : Nat) (hv : v < K.work.length) (hd : S.doneN K v = false) : S.waitsI K (v : Int) = S.waitsN K v := by
 unfold Sh.waitsI; rw [doneI_nat S v hv, hd, Int.toNat_natCast]; rfl
end Go.Proofs.YtabkmdhkfbcldaaGreat
namespace Go.Proofs.YtabkmdhkfbcldaaGreat
open Go.RowKit
def SeqO {α : Type} (F : Fence) (n : Nat) (P : Program) (g : Nat) (lb : Array Value) (encs : α → Array Value) (Kp : World → World → Prop) (S Sp : List α → Prop) (N : Nat) (w : World) : Prop :=
 ∀ (l : Nat) (J Jx : List α → World → Prop) (W : World), Below w.heap.size w W → OwnFrom W.heap.size J → OwnFrom W.heap.size Jx →
  (∀ pre x W1, J pre W1 → pre.length < N → YieldAt F (n - 1) P l (encs x) W1 fun e W' =>
   ((e = .returned (.bool true) ∧ J (pre ++ [x]) W' ∧ Kp W1 W') ∨ (e = .returned (.bool false) ∧ Jx (pre ++ [x]) W')) ∧ KeepsFrom W.heap.size W1 W') →
  J [] W →
  CallsIn F n P g (#[.func (.yield l) #[] #[]] ++ lb) W fun e W' => (∃ v, e = .returned v) ∧ ((∃ xs, S xs ∧ J xs W') ∨ (∃ pre, Sp pre ∧ Jx pre W'))
variable {F : Fence} {n : Nat} {P : Program}
theorem wpIn_rangeFunc_O {α : Type} {g : Operand} {ps : Array Tmp} {assign body : Code} {Q : Exit → Act → World → Prop} {a : Act} {w : World}
  (hro : F.round = none) (h1 : 1 ≤ n) {gf : Nat} {lb : Array Value} (hg : a.eval g = .func (.func gf) #[] lb) (hFg : F.fn gf) (eg : ∀ args w, (callFunc gf args).run P w = .ok (.enter gf args) w)
  {encs : α → Array Value} {Kp : World → World → Prop} {S Sp : List α → Prop} {N : Nat} {w0 : World} (hseq : SeqO F (n - 1) P gf lb encs Kp S Sp N w0)
  (hKt : ∀ {A B C : World}, Kp A B → Kp B C → Kp A C) (hKb : ∀ (W : World) (l : Nat) (o o' : Obj), w.heap.size ≤ l → W.heap[l]? = some o → o.isCells = false → o.isWalk = false → Kp W (W.putObj l o')) (hb0 : Below w0.heap.size w0 w) (hps : ∀ x, (encs x).size = ps.size)
  (I : List α → World → Prop) (Ix : Code → List α → World → Prop) (hI : OwnFrom w.heap.size I) (hIx : ∀ c, OwnFrom w.heap.size (Ix c)) (h0 : I [] w) (a₁ : α → Act)
  (hassign : ∀ (l : Nat) (x : α) (W : World) (K : Act → World → Prop), K (a₁ x) W →
   assign.wpIn (F.inRound l) (n - 1 - 1) P (Exit.then K (fun _ _ _ => False)) { tmps := (ps.zip (encs x)).foldl (fun t (p, v) => t.setIfInBounds p v) a.tmps, defers := [] } W)
  (hbody : ∀ (l : Nat) (pre : List α) (x : α) (W : World), I pre W → pre.length < N → body.wpIn (F.inRound l) (n - 1 - 1) P (ownPostG w.heap.size Kp I Ix (pre ++ [x]) W) (a₁ x) W)
  (hdone : ∀ (xs : List α) (W : World), S xs → I xs W → W.heap[w.heap.size]? = some (.deferred (some [])) → Q .normal { a with defers := { target := .collected w.heap.size, args := #[] } :: a.defers } W)
  (hstop : ∀ (c : Code) (pre : List α) (W : World), Sp pre → Ix c pre W → W.heap[w.heap.size]? = some (.deferred (some [])) → c.wpIn F n P Q { a with defers := { target := .collected w.heap.size, args := #[] } :: a.defers } W) :
  (Code.rangeFunc g ps assign body).wpIn F n P Q a w := by
 refine wpIn_rangeFunc ?_
 intro fn hfn
 rw [hro]
 obtain ⟨rec, hrec⟩ : ∃ rec : LoopState → Option Code → Loop, rec = fun st pe => { state := st, pending := pe, fn, tmps := a.tmps, params := ps, assign, body, defers := w.heap.size } := ⟨_, rfl⟩
 obtain ⟨W1, hW1⟩ : ∃ W1, (w.alloc (.deferred (some []))).alloc (.loop (rec .ready none)) = W1 := ⟨_, rfl⟩
 have hL1 : W1.heap[w.heap.size + 1]? = some (.loop (rec .ready none)) := by
  rw [← hW1]; have := World.alloc_heap_new (w.alloc (.deferred (some []))) (.loop (rec .ready none)); rwa [World.size_alloc] at this
 have hK1 : W1.heap[w.heap.size]? = some (.deferred (some [])) := by
  rw [← hW1]; exact (Below.heap_alloc _ _ _ (by simp)).trans (World.alloc_heap_new w _)
 have hs1 : W1.heap.size = w.heap.size + 2 := by rw [← hW1]; simp
 have hI1 : I [] W1 := by rw [← hW1]; exact hI.alloc _ (hI.alloc _ h0)
 have hb1 : Below w0.heap.size w0 W1 := by
  rw [← hW1]; exact hb0.trans ((((Below.refl _ w).alloc (Nat.le_refl _) _).alloc (by simp) _).mono hb0.size)
 refine ⟨w.heap.size + 1, [{ target := .collected w.heap.size, args := #[] }], W1, { target := .fn (.func gf) lb, args := #[.func (.yield (w.heap.size + 1)) #[] #[]] }, W1, gf,
  #[.func (.yield (w.heap.size + 1)) #[] #[]] ++ lb, W1, ?_, ?_, ?_, ?_, fun _ => h1, ?_⟩
 ·rw [← hW1, hrec]; exact run_enterLoop_outer _ _ _ _ _
 ·simp only [resolve, hg]
  simp [go_sem]
 ·intro f' hf'; simp [Target.leads] at hf'; subst hf'; exact hFg
 ·simp [invoke, go_sem, eg]
 ·have hnw : ∀ {A : World} {row : Option Nat}, (∀ r, row = some r → W1.heap.size ≤ r ∧ ∃ o : Obj, A.heap[r]? = some o ∧ o.isCells = false) → (∀ r, row = some r → w.heap.size ≤ r ∧ ∃ o : Obj, A.heap[r]? = some o ∧ o.isCells = false) :=
   fun hr r e => ⟨by have := (hr r e).1; omega, (hr r e).2⟩
  have hst : ∀ {A B : World} {row : Option Nat} {k : Nat} {o : Obj}, A.grownBy B row → (∀ r, row = some r → W1.heap.size ≤ r ∧ ∃ o : Obj, A.heap[r]? = some o ∧ o.isCells = false) → k < W1.heap.size → A.heap[k]? = some o → B.heap[k]? = some o :=
   fun hg hr hk h => (hg.block _ (Array.getElem?_eq_some_iff.1 h).1 (fun e => by have := (hr _ e.symm).1; omega)).trans h
  refine (hseq (w.heap.size + 1)
   (fun pre W => I pre W ∧ W.heap[w.heap.size + 1]? = some (.loop (rec .ready none)) ∧ W.heap[w.heap.size]? = some (.deferred (some [])))
   (fun pre W => ∃ c, Ix c pre W ∧ W.heap[w.heap.size + 1]? = some (.loop (rec .done (some c))) ∧ W.heap[w.heap.size]? = some (.deferred (some [])))
   W1 hb1
   (fun s A B row hs hg' hr => ⟨hI s A B row hs.1 hg' (hnw hr), hst hg' hr (by omega) hs.2.1, hst hg' hr (by omega) hs.2.2⟩)
   (fun s A B row hs hg' hr => by
    obtain ⟨c, hc, hl, hk⟩ := hs
    exact ⟨c, hIx c s A B row hc hg' (hnw hr), hst hg' hr (by omega) hl, hst hg' hr (by omega) hk⟩)
   ?_ ⟨hI1, hL1, hK1⟩).mono ?_
  ·-- ONE ROUND
   rintro pre x W ⟨hi, hl, hk⟩ hlen
   have hlt : w.heap.size + 1 < W.heap.size := (Array.getElem?_eq_some_iff.1 hl).1
   have hy := run_yield (P := P) (args := encs x) hl (by rw [hrec]; exact hps x)
   rw [hrec] at hy
   refine ⟨fn, _, assign, body, hy, roundIn_of_wpIn hfn (hassign _ x W _ ⟨_, run_beginRound hl (by rw [hrec]), ?_⟩)⟩
   have hl2 : (W.putObj (w.heap.size + 1) (.loop { rec .ready none with state := .busy })).heap[w.heap.size + 1]? = some (.loop { rec .ready none with state := .busy }) := World.putObj_heap_same hlt
   have hk2 : (W.putObj (w.heap.size + 1) (.loop { rec .ready none with state := .busy })).heap[w.heap.size]? = some (.deferred (some [])) := (World.putObj_heap_other (by omega)).trans hk
   have hw2 : Kp W (W.putObj (w.heap.size + 1) (.loop { rec .ready none with state := .busy })) := hKb _ _ _ _ (by omega) hl rfl rfl
   refine wpIn_mono (hbody _ pre x _ (hI.putObj _ hi (by omega) hl rfl) hlen) ?_
   have fin : ∀ (jump : Option Code) (W3 : World), KeepsFrom w.heap.size (W.putObj (w.heap.size + 1) (.loop { rec .ready none with state := .busy })) W3 →
     (Instr.endRound (w.heap.size + 1) jump).run P W3 = .ok (.bool jump.isNone) (W3.putObj (w.heap.size + 1) (.loop (rec (if jump.isNone then .ready else .done) jump))) ∧
     W3.heap[w.heap.size + 1]? = some (.loop { rec .ready none with state := .busy }) ∧
     (W3.putObj (w.heap.size + 1) (.loop (rec (if jump.isNone then .ready else .done) jump))).heap[w.heap.size + 1]? = some (.loop (rec (if jump.isNone then .ready else .done) jump)) ∧
     (W3.putObj (w.heap.size + 1) (.loop (rec (if jump.isNone then .ready else .done) jump))).heap[w.heap.size]? = some (.deferred (some [])) := fun jump W3 hk3 => by
    have hl3 := hk3.same _ _ (by omega) hl2 rfl
    have := run_endRound (P := P) jump hl3
    rw [hrec] at this ⊢
    exact ⟨this, by rw [hrec] at hl3; exact hl3, World.putObj_heap_same (Array.getElem?_eq_some_iff.1 hl3).1, (World.putObj_heap_other (by omega)).trans (hk3.same _ _ (Nat.le_refl _) hk2 rfl)⟩
   have hput : ∀ (W : World) (o : Obj), KeepsFrom W1.heap.size W (W.putObj (w.heap.size + 1) o) := fun W o => KeepsFrom.of_grownBy (grownBy_putObj' W _ o) (fun j e => by cases e; omega)
   rintro e a3 W3 hp
   cases e with
   | normal =>
    obtain ⟨hk3, hkp3, hi3⟩ := hp
    obtain ⟨hr, hl3, hl4, hk4⟩ := fin none W3 hk3
    exact ⟨_, _, hr, .inl ⟨rfl, ⟨hI.putObj _ hi3 (by omega) hl3 rfl, hl4, hk4⟩, hKt (hKt hw2 hkp3) (hKb _ _ _ _ (by omega) hl3 rfl rfl)⟩, ((hput _ _).trans ⟨hk3.size, fun k o hB => hk3.same k o (by omega)⟩).trans (hput _ _)⟩
   | ret =>
    obtain ⟨hk3, hi3⟩ := hp
    obtain ⟨hr, hl3, hl4, hk4⟩ := fin (some .ret) W3 hk3
    exact ⟨_, _, hr, .inr ⟨rfl, .ret, (hIx _).putObj _ hi3 (by omega) hl3 rfl, hl4, hk4⟩, ((hput _ _).trans ⟨hk3.size, fun k o hB => hk3.same k o (by omega)⟩).trans (hput _ _)⟩
   | exit id =>
    obtain ⟨hk3, hi3⟩ := hp
    obtain ⟨hr, hl3, hl4, hk4⟩ := fin (some (.exit id)) W3 hk3
    exact ⟨_, _, hr, .inr ⟨rfl, .exit id, (hIx _).putObj _ hi3 (by omega) hl3 rfl, hl4, hk4⟩, ((hput _ _).trans ⟨hk3.size, fun k o hB => hk3.same k o (by omega)⟩).trans (hput _ _)⟩
   | goto t =>
    obtain ⟨hk3, hi3⟩ := hp
    obtain ⟨hr, hl3, hl4, hk4⟩ := fin (some (.goto t)) W3 hk3
    exact ⟨_, _, hr, .inr ⟨rfl, .goto t, (hIx _).putObj _ hi3 (by omega) hl3 rfl, hl4, hk4⟩, ((hput _ _).trans ⟨hk3.size, fun k o hB => hk3.same k o (by omega)⟩).trans (hput _ _)⟩
   | panic ch => exact hp.elim
   | outgrown => exact hp.elim
  ·-- BEHIND THE ITERATOR
   rintro e W2 ⟨⟨v, rfl⟩, (⟨xs, hS, hi, hl, hk⟩ | ⟨pre, hSp, c, hi, hl, hk⟩)⟩
   ·exact ⟨none, _, by have := run_endLoop (P := P) hl (by rw [hrec]; simp); rw [hrec] at this; exact this, hdone xs _ hS (hI.putObj _ hi (by omega) hl rfl) ((World.putObj_heap_other (by omega)).trans hk)⟩
   ·exact ⟨some c, _, by have := run_endLoop (P := P) hl (by rw [hrec]; simp); rw [hrec] at this; exact this, hstop c pre _ hSp ((hIx c).putObj _ hi (by omega) hl rfl) ((World.putObj_heap_other (by omega)).trans hk)⟩
end Go.Proofs.YtabkmdhkfbcldaaGreat
namespace Go.Proofs.YtabkmdhkfbcldaaGreat
open Go.RowKit
open Go.ChangeMaps (setBlock)
section
variable {F : Fence} {n : Nat} {P : Program} {w : World} {ops : Array Oper} {rest : List Oper} {o : Oper} {a : Act} {Q : Exit → Act → World → Prop}
end
end Go.Proofs.YtabkmdhkfbcldaaGreat
namespace Go.Proofs.YtabkmdhkfbcldaaGreat
open Go.RowKit
open Go.ChangeMaps (setBlock)
attribute [local go_sem] Oper.semAt_some
theorem wide_fnS (f : FuncId) : Fence.wide.fn f = True := rfl
theorem wide_depthS : Fence.wide.depth = none := rfl
attribute [local go_sem] wide_fnS wide_depthS
variable {w w' : World}
end Go.Proofs.YtabkmdhkfbcldaaGreat
namespace Go.Proofs.YtabkmdhkfbcldaaGreat
open Go.RowKit
variable {w w' : World}
end Go.Proofs.YtabkmdhkfbcldaaGreat
namespace Go.Proofs.YtabkmdhkfbcldaaGreat
open Go.RowKit
theorem own_keptO {W W' : World} {base : Nat} {e : TypeId} {size : Nat} {v : Value} {n : Nat} {xs : List Value} {l : Nat} {o : Obj} (h : W.ownsRow base e size v n xs) (hg : W.grownBy W' (some l)) (hl : W.heap[l]? = some o) (ho : o.isCells = false) : W'.ownsRow base e size v n xs := by
 refine h.kept hg ?_
 rcases h.2 with ⟨rfl, _⟩ | ⟨g, cap, cur, rfl, _, hgg, _⟩
 ·exact .inl rfl
 ·refine .inr (fun e => ?_)
  have e2 : g = l := by simpa [Value.ownBlock] using e
  subst e2
  rw [hgg] at hl
  cases hl
  simp [Obj.isCells] at ho
def more (T : Nat → Prop) (hs : Nat) (W : World) : Nat → Prop := fun k => T k ∨ (hs ≤ k ∧ k < W.heap.size)
variable {F : Fence} {n : Nat} {P : Program}
end Go.Proofs.YtabkmdhkfbcldaaGreat
namespace Go.Proofs.YtabkmdhkfbcldaaGreat
open Go.RowKit
attribute [local go_sem] Oper.semAt_some
attribute [local go_sem] wide_fnS wide_depthS
variable {w w' W : World} {base t : Nat} {K : Wk} {S : Sh} {B : TB}
end Go.Proofs.YtabkmdhkfbcldaaGreat
namespace Go.Proofs.YtabkmdhkfbcldaaGreat
open Go.RowKit
attribute [local go_sem] Oper.semAt_some
attribute [local go_sem] wide_fnS wide_depthS
variable {w w' W : World} {base t : Nat} {K : Wk} {S : Sh} {B : TB}
end Go.Proofs.YtabkmdhkfbcldaaGreat
namespace Go.Proofs.YtabkmdhkfbcldaaGreat
open Go.RowKit
attribute [local go_sem] Oper.semAt_some
attribute [local go_sem] wide_fnS wide_depthS
variable {w w' W : World}
end Go.Proofs.YtabkmdhkfbcldaaGreat
namespace Go.Proofs.YtabkmdhkfbcldaaGreat
open Go.RowKit
attribute [local go_sem] Oper.semAt_some
attribute [local go_sem] wide_fnS wide_depthS
variable {w w' W : World}
end Go.Proofs.YtabkmdhkfbcldaaGreat
