/-
  The table in plain words: whose defines the rows are.
  The table in plain words: when nobody can go on.
-/
import Derived.Test.YtabkmdhkfbcldaaJI0
import Derived.Test.YtabkmdhkfbcldaaJH5
namespace Go.Proofs.Ytabkmdhkfbcldaa
open Go.RowKit
variable {K : Wk} {S : Sh}

/-- The calls and the hands. -/
structure CallOk (K : Wk) (S : Sh) : Prop where
  hand : ∀ w, w < K.work.length → (S.hand w).at_ ≠ 0 → ∃ fr, cAt S.calls (S.hand w).call = ⟨w, (S.ask K w).kind, (S.ask K w).key, (S.ask K w).value, fr, -1, 0, 0⟩
  opens : ∀ j, j < S.calls.length → (cAt S.calls j).to = -1 → ∃ w, w < K.work.length ∧ (S.hand w).at_ ≠ 0 ∧ (S.hand w).call = j
  tos : ∀ j, j < S.calls.length → (cAt S.calls j).to = -1 ∨ 0 ≤ (cAt S.calls j).to
/-- Which calls put the rows. -/
structure DefOk (K : Wk) (S : Sh) (defs : List Nat) : Prop where
  len : defs.length = S.rows.length
  row : ∀ (i j : Nat) (r : Rw), defs[i]? = some j → S.rows[i]? = some r → j < S.calls.length ∧ (cAt S.calls j).kind = 1 ∧ (cAt S.calls j).key = r.key ∧ (cAt S.calls j).value = r.val ∧ ((cAt S.calls j).to ≠ -1 → (cAt S.calls j).err = 0)
  opn : ∀ j ∈ defs, (cAt S.calls j).to = -1 → ∃ w, w < K.work.length ∧ ((S.hand w).at_ = 3 ∨ (S.hand w).at_ = 4) ∧ (S.hand w).call = j ∧ (S.hand w).found = false
  nd : defs.Nodup
  done : ∀ j, j < S.calls.length → (cAt S.calls j).kind = 1 → (cAt S.calls j).to ≠ -1 → (cAt S.calls j).err = 0 → j ∈ defs
  mine : ∀ w, w < K.work.length → ((S.hand w).at_ = 3 ∨ (S.hand w).at_ = 4) → (S.hand w).found = false → (S.ask K w).kind = 1 → (S.hand w).call ∈ defs
def FOk (K : Wk) (S : Sh) : Prop := CallOk K S ∧ ∃ defs, DefOk K S defs

theorem cAt_set (l : List Cl) (j i : Nat) (c : Cl) (hj : j < l.length) : cAt (l.set j c) i = if i = j then c else cAt l i := getD_set l j hj c cl0 i
theorem cAt_app (l : List Cl) (i : Nat) (c : Cl) : cAt (l ++ [c]) i = if i < l.length then cAt l i else if i = l.length then c else cl0 := by
  unfold cAt
  rw [List.getD_eq_getElem?_getD]
  by_cases h : i < l.length
  · rw [if_pos h, List.getElem?_append_left h, ← List.getD_eq_getElem?_getD]
  · rw [if_neg h]
    by_cases e : i = l.length
    · rw [if_pos e, e]; simp
    · rw [if_neg e, List.getElem?_eq_none (by simp; omega)]; rfl
theorem start_f (K : Wk) : FOk K (Sh.start K) := by
  have hh : ∀ v, ((Sh.start K).hand v) = hn0 := fun v => getD_rep _ _ _
  refine ⟨⟨fun w _ h => ?_, fun j hj => (by cases hj), fun j hj => (by cases hj)⟩, [], ⟨rfl, fun i j r h => (by simp at h), fun j hj => (by cases hj), List.nodup_nil, fun j hj => (by cases hj), fun w _ h => ?_⟩⟩
  · rw [hh] at h; exact absurd rfl h
  · rw [hh] at h; simp [hn0] at h
/-- Two workers never have one call in hand. -/
theorem CallOk.one (h : CallOk K S) {v w : Nat} (hv : v < K.work.length) (hw : w < K.work.length) (hv0 : (S.hand v).at_ ≠ 0) (hw0 : (S.hand w).at_ ≠ 0) (e : (S.hand v).call = (S.hand w).call) : v = w := by
  obtain ⟨f1, e1⟩ := h.hand v hv hv0
  obtain ⟨f2, e2⟩ := h.hand w hw hw0
  rw [e, e2] at e1
  have := congrArg Cl.w e1
  simp at this
  omega
/-- The step changes nothing of the calls, and its worker's hand by its place alone. -/
theorem CallOk.same (h : CallOk K S) (S' : Sh) (w : Nat) (hw : w < S.hands.length) (x : Hn) (hh : S'.hands = S.hands.set w x) (hn : S'.next = S.next) (hc : S'.calls = S.calls) (hx : x.call = (S.hand w).call) (h0 : (S.hand w).at_ ≠ 0) (hx0 : x.at_ ≠ 0) : CallOk K S' := by
  have hk := hand_set S' w x hw hh
  have ha : ∀ v, S'.ask K v = S.ask K v := fun v => by unfold Sh.ask; rw [hn]
  refine ⟨fun v hv h1 => ?_, fun j hj h1 => ?_, by rw [hc]; exact h.tos⟩
  · rw [hk] at h1 ⊢
    rw [hc, ha]
    by_cases e : v = w
    · subst e; rw [if_pos rfl, hx]; exact h.hand v hv h0
    · rw [if_neg e] at h1 ⊢; exact h.hand v hv h1
  · rw [hc] at hj h1
    obtain ⟨v, v1, v2, v3⟩ := h.opens j hj h1
    refine ⟨v, v1, ?_⟩
    rw [hk]
    by_cases e : v = w
    · subst e; rw [if_pos rfl]; exact ⟨hx0, hx.trans v3⟩
    · rw [if_neg e]; exact ⟨v2, v3⟩
theorem CallOk.ended {w : Nat} (h : CallOk K S) (hl : w < S.hands.length) (hwl : w < K.work.length) (hnl : w < S.next.length) (S' : Sh) (n e : Int) (hh : S'.hands = S.hands.set w hn0) (hn : S'.next = S.next.set w (S.next.getD w 0 + 1)) (hc : S'.calls = S.calls.set (S.hand w).call { cAt S.calls (S.hand w).call with «to» := S.steps + 1, ans := n, err := e })
    (h0 : (S.hand w).at_ ≠ 0) (hcl : (S.hand w).call < S.calls.length) : CallOk K S' := by
  have hk := hand_set S' w hn0 hl hh
  have ha : ∀ v, v ≠ w → S'.ask K v = S.ask K v := fun v hv => by unfold Sh.ask; rw [hn, getD_set _ _ hnl, if_neg hv]
  refine ⟨fun v hv h1 => ?_, fun j hj h1 => ?_, fun j hj => ?_⟩
  · rw [hk] at h1 ⊢
    by_cases e : v = w
    · subst e; rw [if_pos rfl] at h1; simp [hn0] at h1
    · rw [if_neg e] at h1 ⊢
      rw [hc, ha v e, cAt_set _ _ _ _ hcl, if_neg (fun e2 => e (h.one hv hwl h1 h0 e2))]
      exact h.hand v hv h1
  · rw [hc, cAt_set _ _ _ _ hcl] at h1
    rw [hc, List.length_set] at hj
    by_cases e : j = (S.hand w).call
    · rw [if_pos e] at h1; simp at h1; omega
    · rw [if_neg e] at h1
      obtain ⟨v, v1, v2, v3⟩ := h.opens j hj h1
      have hne : v ≠ w := fun e2 => by subst e2; exact e v3.symm
      exact ⟨v, v1, by rw [hk, if_neg hne]; exact v2, by rw [hk, if_neg hne]; exact v3⟩
  · rw [hc, List.length_set] at hj
    rw [hc, cAt_set _ _ _ _ hcl]
    by_cases e : j = (S.hand w).call
    · rw [if_pos e]; exact .inr (by show (0 : Int) ≤ (S.steps : Int) + 1; omega)
    · rw [if_neg e]; exact h.tos j hj
theorem CallOk.begun {w : Nat} (h : CallOk K S) (hl : w < S.hands.length) (hwl : w < K.work.length) (S' : Sh) (hh : S'.hands = S.hands.set w ⟨1, false, S.calls.length⟩) (hn : S'.next = S.next) (hc : S'.calls = S.calls ++ [⟨w, (S.ask K w).kind, (S.ask K w).key, (S.ask K w).value, S.steps, -1, 0, 0⟩])
    (h0 : (S.hand w).at_ = 0) (hin : ∀ v, v < K.work.length → (S.hand v).at_ ≠ 0 → (S.hand v).call < S.calls.length) : CallOk K S' := by
  have hk := hand_set S' w _ hl hh
  have ha : ∀ v, S'.ask K v = S.ask K v := fun v => by unfold Sh.ask; rw [hn]
  refine ⟨fun v hv h1 => ?_, fun j hj h1 => ?_, fun j hj => ?_⟩
  · rw [hk] at h1 ⊢
    rw [ha, hc]
    by_cases e : v = w
    · subst e; rw [if_pos rfl]
      refine ⟨S.steps, ?_⟩
      rw [cAt_app, if_neg (Nat.lt_irrefl _), if_pos rfl]
    · rw [if_neg e] at h1 ⊢
      rw [cAt_app, if_pos (hin v hv h1)]
      exact h.hand v hv h1
  · rw [hc, cAt_app] at h1
    rw [hc, List.length_append] at hj
    simp at hj
    by_cases e : j < S.calls.length
    · rw [if_pos e] at h1
      obtain ⟨v, v1, v2, v3⟩ := h.opens j e h1
      have hne : v ≠ w := fun e2 => by subst e2; exact v2 h0
      exact ⟨v, v1, by rw [hk, if_neg hne]; exact v2, by rw [hk, if_neg hne]; exact v3⟩
    · have e2 : j = S.calls.length := by omega
      exact ⟨w, hwl, by rw [hk, if_pos rfl]; simp, by rw [hk, if_pos rfl]; exact e2.symm⟩
  · rw [hc, List.length_append] at hj
    simp at hj
    rw [hc, cAt_app]
    by_cases e : j < S.calls.length
    · rw [if_pos e]; exact h.tos j e
    · rw [if_neg e, if_pos (by omega)]; exact .inl rfl
/-- The rows' keys and values, the calls and whose hands are at 3 or 4 are what matters. -/
theorem DefOk.same {defs : List Nat} (h : DefOk K S defs) (S' : Sh) (w : Nat) (hw : w < S.hands.length) (x : Hn) (hh : S'.hands = S.hands.set w x) (hn : S'.next = S.next) (hc : S'.calls = S.calls) (hr : S'.rows.map (fun r => (r.key, r.val)) = S.rows.map (fun r => (r.key, r.val))) (hx : x.call = (S.hand w).call)
    (h1 : ((S.hand w).at_ = 3 ∨ (S.hand w).at_ = 4) ∧ (S.hand w).found = false ∧ (S.ask K w).kind = 1 → (x.at_ = 3 ∨ x.at_ = 4) ∧ x.found = false) (h2 : (x.at_ = 3 ∨ x.at_ = 4) → x.found = false → (S.ask K w).kind = 1 → ((S.hand w).at_ = 3 ∨ (S.hand w).at_ = 4) ∧ (S.hand w).found = false) (hC : CallOk K S) : DefOk K S' defs := by
  have hk := hand_set S' w x hw hh
  have ha : ∀ v, S'.ask K v = S.ask K v := fun v => by unfold Sh.ask; rw [hn]
  have hrl : S'.rows.length = S.rows.length := by have := congrArg List.length hr; simpa using this
  refine ⟨by rw [hrl]; exact h.len, fun i j r hi hri => ?_, fun j hj ho => ?_, h.nd, by rw [hc]; exact h.done, fun v hv h3 hf hkd => ?_⟩
  · have hri2 : (S.rows[i]?).map (fun r => (r.key, r.val)) = some (r.key, r.val) := by
      rw [← List.getElem?_map, ← hr, List.getElem?_map, hri]; rfl
    cases hr2 : S.rows[i]? with
    | none => rw [hr2] at hri2; cases hri2
    | some r2 =>
      rw [hr2] at hri2
      simp at hri2
      rw [hc, ← hri2.1, ← hri2.2]
      exact h.row i j r2 hi hr2
  · rw [hc] at ho
    obtain ⟨v, v1, v2, v3, v4⟩ := h.opn j hj ho
    refine ⟨v, v1, ?_⟩
    rw [hk]
    by_cases e : v = w
    · subst e
      rw [if_pos rfl]
      have hkind : (S.ask K v).kind = 1 := by
        obtain ⟨fr, e1⟩ := hC.hand v v1 (by omega)
        obtain ⟨i, hi⟩ := List.getElem?_of_mem hj
        have hil : i < S.rows.length := by rw [← h.len]; exact (List.getElem?_eq_some_iff.1 hi).1
        have := (h.row i j _ hi (List.getElem?_eq_getElem hil)).2.1
        rw [← v3, e1] at this
        exact this
      have := h1 ⟨v2, v4, hkind⟩
      exact ⟨this.1, hx.trans v3, this.2⟩
    · rw [if_neg e]; exact ⟨v2, v3, v4⟩
  · rw [hk] at h3 hf ⊢
    rw [ha] at hkd
    by_cases e : v = w
    · subst e
      rw [if_pos rfl] at h3 hf ⊢
      rw [hx]
      have := h2 h3 hf hkd
      exact h.mine v hv this.1 this.2 hkd
    · rw [if_neg e] at h3 hf ⊢; exact h.mine v hv h3 hf hkd
theorem FOk.step (HO : ∀ k, K.of k < K.shards) (ho : ShOk K S) (h : FOk K S) (w : Nat) (hc : S.canN K w = true) : FOk K (S.stepN K w) := by
  have hw := can_lt hc
  obtain ⟨hC, defs, hD⟩ := h
  have H := ho.each w hw
  have hnl : w < S.next.length := by rw [ho.nxl]; exact hw
  have hhl : w < S.hands.length := by rw [ho.hnl]; exact hw
  have h5 : (S.hand w).at_ ≤ 5 := by
    by_cases h0 : (S.hand w).at_ = 0
    · omega
    · exact (H.inh h0).2.2
  have hin : ∀ v, v < K.work.length → (S.hand v).at_ ≠ 0 → (S.hand v).call < S.calls.length := fun v hv h0 => ((ho.each v hv).inh h0).2.1
  rw [step_is hc]
  unfold Sh.body
  dsimp only
  rcases (show (S.hand w).at_ = 0 ∨ (S.hand w).at_ = 1 ∨ (S.hand w).at_ = 2 ∨ (S.hand w).at_ = 3 ∨ (S.hand w).at_ = 4 ∨ (S.hand w).at_ = 5 by omega) with e | e | e | e | e | e <;> simp only [e]
  · refine ⟨hC.begun hhl hw _ rfl rfl rfl e hin, defs, ?_⟩
    have hk := hand_set (S := S) { (Sh.setL K { S with calls := S.calls ++ [⟨w, (S.ask K w).kind, (S.ask K w).key, (S.ask K w).value, S.steps, -1, 0, 0⟩] } w w).setH w ⟨1, false, S.calls.length⟩ with steps := S.steps + 1 } w ⟨1, false, S.calls.length⟩ hhl rfl
    have hjl : ∀ j ∈ defs, j < S.calls.length := fun j hj => by
      obtain ⟨i, hi⟩ := List.getElem?_of_mem hj
      have hil : i < S.rows.length := by rw [← hD.len]; exact (List.getElem?_eq_some_iff.1 hi).1
      exact (hD.row i j _ hi (List.getElem?_eq_getElem hil)).1
    have hca : ∀ j, j < S.calls.length → cAt (S.calls ++ [⟨w, (S.ask K w).kind, (S.ask K w).key, (S.ask K w).value, S.steps, -1, 0, 0⟩]) j = cAt S.calls j := fun j hj => by rw [cAt_app, if_pos hj]
    refine ⟨hD.len, fun i j r hi hri => ?_, fun j hj hop => ?_, hD.nd, fun j hj hk1 hto herr => ?_, fun v hv h3 hf hkd => ?_⟩
    · obtain ⟨q1, q2⟩ := hD.row i j r hi hri
      refine ⟨?_, ?_⟩
      · show j < (S.calls ++ [_]).length; rw [List.length_append]; omega
      · have gen : ∀ c, c = cAt S.calls j → c.kind = 1 ∧ c.key = r.key ∧ c.value = r.val ∧ (c.to ≠ -1 → c.err = 0) := fun c hc => by rw [hc]; exact q2
        exact gen _ (hca j q1)
    · have hop : (cAt (S.calls ++ [_]) j).to = -1 := hop
      rw [hca j (hjl j hj)] at hop
      obtain ⟨v, v1, v2, v3, v4⟩ := hD.opn j hj hop
      have hne : v ≠ w := fun e2 => by subst e2; omega
      exact ⟨v, v1, by rw [hk, if_neg hne]; exact v2, by rw [hk, if_neg hne]; exact v3, by rw [hk, if_neg hne]; exact v4⟩
    · have hj : j < (S.calls ++ [_]).length := hj
      rw [List.length_append] at hj
      simp at hj
      have hto : (cAt (S.calls ++ [_]) j).to ≠ -1 := hto
      have hk1 : (cAt (S.calls ++ [_]) j).kind = 1 := hk1
      have herr : (cAt (S.calls ++ [_]) j).err = 0 := herr
      by_cases e2 : j < S.calls.length
      · rw [hca j e2] at hto hk1 herr
        exact hD.done j e2 hk1 hto herr
      · rw [cAt_app, if_neg e2, if_pos (by omega)] at hto
        exact absurd rfl hto
    · rw [hk] at h3 hf ⊢
      by_cases e2 : v = w
      · subst e2; rw [if_pos rfl] at h3; simp at h3
      · rw [if_neg e2] at h3 hf ⊢; exact hD.mine v hv h3 hf hkd
  · refine ⟨hC.same _ w hhl ⟨if (S.ask K w).kind = 1 ∧ S.get (S.ask K w).key = none then 2 else 4, (S.get (S.ask K w).key).isSome, (S.hand w).call⟩ rfl rfl rfl rfl (by omega) (by dsimp only; split <;> omega), defs, ?_⟩
    refine hD.same _ w hhl ⟨if (S.ask K w).kind = 1 ∧ S.get (S.ask K w).key = none then 2 else 4, (S.get (S.ask K w).key).isSome, (S.hand w).call⟩ rfl rfl rfl rfl rfl (fun h => by omega) (fun h1 h2 h3 => ?_) hC
    dsimp only at h1 h2
    have hg : S.get (S.ask K w).key = none := by
      cases hg : S.get (S.ask K w).key with
      | none => rfl
      | some v => rw [hg] at h2; cases h2
    rw [if_pos ⟨h3, hg⟩] at h1
    omega
  · obtain ⟨t1, t2, t3⟩ := H.two e
    have hcl := hin w hw (by omega)
    obtain ⟨fr, hcw⟩ := hC.hand w hw (by omega)
    refine ⟨hC.same _ w hhl ⟨3, (S.hand w).found, (S.hand w).call⟩ rfl rfl rfl rfl (by omega) (by simp), defs ++ [(S.hand w).call], ?_⟩
    have hk := hand_set (S := S) { (({ S with rows := S.rows ++ [⟨(S.ask K w).key, (S.ask K w).value, false⟩] } : Sh).setH w { S.hand w with at_ := 3 }) with steps := S.steps + 1 } w ⟨3, (S.hand w).found, (S.hand w).call⟩ hhl rfl
    have hnew : (S.hand w).call ∉ defs := fun hm => by
      obtain ⟨v, v1, v2, v3, v4⟩ := hD.opn _ hm (by rw [hcw])
      have hvw := hC.one v1 hw (by omega) (by omega) v3
      subst hvw; omega
    refine ⟨?_, fun i j r hi hri => ?_, fun j hj hop => ?_, ?_, fun j hj hk1 hto herr => List.mem_append_left _ (hD.done j hj hk1 hto herr), fun v hv h3 hf hkd => ?_⟩
    · show (defs ++ [_]).length = (S.rows ++ [_]).length
      rw [List.length_append, List.length_append, hD.len]; rfl
    · have hri : (S.rows ++ [(⟨(S.ask K w).key, (S.ask K w).value, false⟩ : Rw)])[i]? = some r := hri
      by_cases hil : i < S.rows.length
      · rw [List.getElem?_append_left hil] at hri
        rw [List.getElem?_append_left (by rw [hD.len]; exact hil)] at hi
        exact hD.row i j r hi hri
      · have hie : i = S.rows.length := by
          have := (List.getElem?_eq_some_iff.1 hri).1
          simp at this; omega
        subst hie
        have h1 : r = ⟨(S.ask K w).key, (S.ask K w).value, false⟩ := by simpa using hri.symm
        have h2 : j = (S.hand w).call := by rw [← hD.len] at hi; simpa using hi.symm
        subst h1 h2
        have gen : ∀ c, c = (⟨w, (S.ask K w).kind, (S.ask K w).key, (S.ask K w).value, fr, -1, 0, 0⟩ : Cl) → c.kind = 1 ∧ c.key = (S.ask K w).key ∧ c.value = (S.ask K w).value ∧ (c.to ≠ -1 → c.err = 0) := fun c hc => by rw [hc]; exact ⟨t1, rfl, rfl, fun h => absurd rfl h⟩
        exact ⟨hcl, gen _ hcw⟩
    · rcases List.mem_append.1 hj with hj | hj
      · obtain ⟨v, v1, v2, v3, v4⟩ := hD.opn j hj hop
        have hne : v ≠ w := fun e2 => by subst e2; omega
        exact ⟨v, v1, by rw [hk, if_neg hne]; exact v2, by rw [hk, if_neg hne]; exact v3, by rw [hk, if_neg hne]; exact v4⟩
      · simp at hj
        subst hj
        exact ⟨w, hw, by rw [hk, if_pos rfl]; exact .inl rfl, by rw [hk, if_pos rfl], by rw [hk, if_pos rfl]; exact t3⟩
    · rw [List.nodup_append]
      exact ⟨hD.nd, by simp, fun a ha b hb => by simp at hb; subst hb; exact fun e2 => hnew (e2 ▸ ha)⟩
    · rw [hk] at h3 hf ⊢
      by_cases e2 : v = w
      · subst e2; rw [if_pos rfl]; simp
      · rw [if_neg e2] at h3 hf ⊢; exact List.mem_append_left _ (hD.mine v hv h3 hf hkd)
  · refine ⟨hC.same _ w hhl ⟨4, (S.hand w).found, (S.hand w).call⟩ rfl rfl rfl rfl (by omega) (by simp), defs, ?_⟩
    refine hD.same _ w hhl ⟨4, (S.hand w).found, (S.hand w).call⟩ rfl rfl rfl ?_ rfl (fun h => ⟨.inr rfl, h.2.1⟩) (fun h1 h2 h3 => ⟨.inl e, h2⟩) hC
    show (S.rows.map (tellR (S.ask K w).key)).map _ = _
    rw [List.map_map]
    refine List.map_congr_left fun r _ => ?_
    show ((tellR (S.ask K w).key r).key, (tellR (S.ask K w).key r).val) = _
    rw [tellR_key, tellR_val]
  · have hcl := hin w hw (by omega)
    obtain ⟨fr, hcw⟩ := hC.hand w hw (by omega)
    have hend : ∀ (S' : Sh) (n er : Int), S'.hands = S.hands.set w hn0 → S'.next = S.next.set w (S.next.getD w 0 + 1) → S'.calls = S.calls.set (S.hand w).call { cAt S.calls (S.hand w).call with «to» := S.steps + 1, ans := n, err := er } → S'.rows = S.rows →
        ((S.ask K w).kind = 1 → ((S.hand w).found = false → er = 0) ∧ ((S.hand w).found = true → er ≠ 0)) → FOk K S' := fun S' n er e1 e2 e3 e4 e5 => by
      have hk := hand_set S' w hn0 hhl e1
      have ha : ∀ v, v ≠ w → S'.ask K v = S.ask K v := fun v hv => by unfold Sh.ask; rw [e2, getD_set _ _ hnl, if_neg hv]
      refine ⟨hC.ended hhl hw hnl S' n er e1 e2 e3 (by omega) hcl, defs, ?_⟩
      have hcs : ∀ j, j ≠ (S.hand w).call → cAt S'.calls j = cAt S.calls j := fun j hj => by rw [e3, cAt_set _ _ _ _ hcl, if_neg hj]
      have hcm : cAt S'.calls (S.hand w).call = { cAt S.calls (S.hand w).call with «to» := S.steps + 1, ans := n, err := er } := by rw [e3, cAt_set _ _ _ _ hcl, if_pos rfl]
      have hkm : (S.hand w).call ∈ defs → (S.ask K w).kind = 1 ∧ (S.hand w).found = false := fun hm => by
        obtain ⟨i, hi⟩ := List.getElem?_of_mem hm
        have hil : i < S.rows.length := by rw [← hD.len]; exact (List.getElem?_eq_some_iff.1 hi).1
        have h1 := (hD.row i _ _ hi (List.getElem?_eq_getElem hil)).2.1
        rw [hcw] at h1
        obtain ⟨v, v1, v2, v3, v4⟩ := hD.opn _ hm (by rw [hcw])
        have hvw := hC.one v1 hw (by omega) (by omega) v3
        subst hvw
        exact ⟨h1, v4⟩
      refine ⟨by rw [e4]; exact hD.len, fun i j r hi hri => ?_, fun j hj hop => ?_, hD.nd, fun j hj hk1 hto herr => ?_, fun v hv h3 hf hkd => ?_⟩
      · rw [e4] at hri
        obtain ⟨q1, q2, q3, q4, q5⟩ := hD.row i j r hi hri
        refine ⟨by rw [e3, List.length_set]; exact q1, ?_⟩
        by_cases hj : j = (S.hand w).call
        · subst hj
          rw [hcm]
          obtain ⟨m1, m2⟩ := hkm (List.mem_of_getElem? hi)
          exact ⟨q2, q3, q4, fun _ => (e5 m1).1 m2⟩
        · rw [hcs j hj]; exact ⟨q2, q3, q4, q5⟩
      · by_cases hj2 : j = (S.hand w).call
        · subst hj2
          rw [hcm] at hop
          have hop : (S.steps : Int) + 1 = -1 := hop
          omega
        · rw [hcs j hj2] at hop
          obtain ⟨v, v1, v2, v3, v4⟩ := hD.opn j hj hop
          have hne : v ≠ w := fun e2 => by subst e2; exact hj2 v3.symm
          exact ⟨v, v1, by rw [hk, if_neg hne]; exact v2, by rw [hk, if_neg hne]; exact v3, by rw [hk, if_neg hne]; exact v4⟩
      · rw [e3, List.length_set] at hj
        by_cases hj2 : j = (S.hand w).call
        · subst hj2
          rw [hcm] at hk1 herr
          have herr : er = 0 := herr
          have hk1 : (cAt S.calls (S.hand w).call).kind = 1 := hk1
          rw [hcw] at hk1
          have hff : (S.hand w).found = false := by
            cases hf : (S.hand w).found with
            | false => rfl
            | true => exact absurd herr ((e5 hk1).2 hf)
          exact hD.mine w hw (.inr e) hff hk1
        · rw [hcs j hj2] at hk1 hto herr
          exact hD.done j hj hk1 hto herr
      · rw [hk] at h3 hf ⊢
        by_cases e2 : v = w
        · subst e2; rw [if_pos rfl] at h3; simp [hn0] at h3
        · rw [if_neg e2] at h3 hf ⊢
          rw [ha v e2] at hkd
          exact hD.mine v hv h3 hf hkd
    unfold endOf2
    by_cases hk1 : (S.ask K w).kind = 1
    · rw [if_pos hk1]
      refine hend _ 0 (if (S.hand w).found = true then 5 else 0) rfl rfl rfl rfl (fun _ => ⟨fun hf => ?_, fun hf => ?_⟩)
      · rw [hf]; rfl
      · rw [hf]; decide
    · rw [if_neg hk1]
      cases hf : (S.hand w).found with
      | true => exact hend _ ((S.get (S.ask K w).key).getD 0) 0 rfl rfl rfl rfl (fun h => absurd h hk1)
      | false =>
        by_cases hk2 : (S.ask K w).kind = 2
        · simp only [Bool.false_eq_true, if_false, if_pos hk2]
          exact hend _ 0 4 rfl rfl rfl rfl (fun h => absurd h hk1)
        · simp only [Bool.false_eq_true, if_false, if_neg hk2]
          refine ⟨hC.same _ w hhl ⟨5, false, (S.hand w).call⟩ rfl rfl rfl rfl (by omega) (by simp), defs, ?_⟩
          exact hD.same _ w hhl ⟨5, false, (S.hand w).call⟩ rfl rfl rfl rfl rfl (fun h => absurd h.2.2 hk1) (fun h1 _ _ => by simp at h1) hC
  · have hcl := hin w hw (by omega)
    obtain ⟨fr, hcw⟩ := hC.hand w hw (by omega)
    obtain ⟨n1, n2⟩ := H.five e
    have hk := hand_set (S := S) { (S.endN w ((S.get (S.ask K w).key).getD 0) 0) with steps := S.steps + 1 } w hn0 hhl rfl
    have hcs : ∀ j, j ≠ (S.hand w).call → cAt (S.endN w ((S.get (S.ask K w).key).getD 0) 0).calls j = cAt S.calls j := fun j hj => by
      show cAt (S.calls.set _ _) j = _
      rw [cAt_set _ _ _ _ hcl, if_neg hj]
    have hcm : (cAt (S.endN w ((S.get (S.ask K w).key).getD 0) 0).calls (S.hand w).call).kind ≠ 1 := by
      show (cAt (S.calls.set _ _) _).kind ≠ 1
      rw [cAt_set _ _ _ _ hcl, if_pos rfl, hcw]; exact n1
    have hnm : (S.hand w).call ∉ defs := fun hm => by
      obtain ⟨i, hi⟩ := List.getElem?_of_mem hm
      have hil : i < S.rows.length := by rw [← hD.len]; exact (List.getElem?_eq_some_iff.1 hi).1
      have h1 := (hD.row i _ _ hi (List.getElem?_eq_getElem hil)).2.1
      rw [hcw] at h1
      exact n1 h1
    refine ⟨hC.ended hhl hw hnl _ ((S.get (S.ask K w).key).getD 0) 0 rfl rfl rfl (by omega) hcl, defs, ?_⟩
    refine ⟨hD.len, fun i j r hi hri => ?_, fun j hj hop => ?_, hD.nd, fun j hj hk1 hto herr => ?_, fun v hv h3 hf hkd => ?_⟩
    · obtain ⟨q1, q2⟩ := hD.row i j r hi hri
      have hj2 : j ≠ (S.hand w).call := fun e2 => hnm (e2 ▸ List.mem_of_getElem? hi)
      refine ⟨by show j < (S.calls.set _ _).length; rw [List.length_set]; exact q1, ?_⟩
      show (cAt (S.endN w ((S.get (S.ask K w).key).getD 0) 0).calls j).kind = 1 ∧ _
      rw [hcs j hj2]; exact q2
    · have hj2 : j ≠ (S.hand w).call := fun e2 => hnm (e2 ▸ hj)
      have hop : (cAt (S.endN w ((S.get (S.ask K w).key).getD 0) 0).calls j).to = -1 := hop
      rw [hcs j hj2] at hop
      obtain ⟨v, v1, v2, v3, v4⟩ := hD.opn j hj hop
      have hne : v ≠ w := fun e2 => by subst e2; omega
      exact ⟨v, v1, by rw [hk, if_neg hne]; exact v2, by rw [hk, if_neg hne]; exact v3, by rw [hk, if_neg hne]; exact v4⟩
    · have hk1 : (cAt (S.endN w ((S.get (S.ask K w).key).getD 0) 0).calls j).kind = 1 := hk1
      have hto : (cAt (S.endN w ((S.get (S.ask K w).key).getD 0) 0).calls j).to ≠ -1 := hto
      have herr : (cAt (S.endN w ((S.get (S.ask K w).key).getD 0) 0).calls j).err = 0 := herr
      have hj : j < (S.calls.set _ _).length := hj
      rw [List.length_set] at hj
      by_cases hj2 : j = (S.hand w).call
      · subst hj2; exact absurd hk1 hcm
      · rw [hcs j hj2] at hk1 hto herr
        exact hD.done j hj hk1 hto herr
    · rw [hk] at h3 hf ⊢
      by_cases e2 : v = w
      · subst e2; rw [if_pos rfl] at h3; simp [hn0] at h3
      · rw [if_neg e2] at h3 hf ⊢
        have ha : ({ (S.endN w ((S.get (S.ask K w).key).getD 0) 0) with steps := S.steps + 1 } : Sh).ask K v = S.ask K v := by
          show (K.own v).getD ((S.next.set w _).getD v 0) ak0 = _
          rw [getD_set _ _ hnl, if_neg e2]; rfl
        rw [ha] at hkd
        exact hD.mine v hv h3 hf hkd
end Go.Proofs.Ytabkmdhkfbcldaa
namespace Go.Proofs.Ytabkmdhkfbcldaa
open Go.RowKit
variable {K : Wk} {S : Sh}

def okd (c : Cl) : Bool := decide (c.kind = 1) && decide (0 ≤ c.to) && decide (c.err = 0)
/-- The last call of a worker that is not ended. -/
def openBy (l : List Cl) (v : Int) : Option Cl := (l.filter (fun c => decide (c.to < 0) && decide (c.w = (v : Int)))).getLast?
theorem openBy_app (l : List Cl) (c : Cl) (v : Int) : openBy (l ++ [c]) v = if c.to < 0 ∧ c.w = v then some c else openBy l v := by
  unfold openBy
  rw [List.filter_append]
  by_cases h : c.to < 0 ∧ c.w = v
  · rw [if_pos h]; simp [h.1, h.2]
  · rw [if_neg h]
    have : (decide (c.to < 0) && decide (c.w = (v : Int))) = false := by
      rw [Bool.eq_false_iff]; intro e; simp at e; exact h e
    simp [this]
theorem alook_mem {κ β : Type} [DecidableEq κ] {x : κ} : ∀ {m : List (κ × β)}, x ∈ m.map Prod.fst ↔ alook m x ≠ none
  | [] => by simp [alook]
  | (a, v) :: r => by
    by_cases e : x = a
    · simp [alook, e]
    · simp only [alook, if_neg e, List.map_cons, List.mem_cons, e, false_or]
      exact alook_mem
theorem get_mem (S : Sh) (k : ByteArray) : k ∈ S.rows.map Rw.key ↔ S.get k ≠ none := by
  unfold Sh.get
  cases h : rowAt S.rows k with
  | none => simp only [Option.map_none, ne_eq, not_true_eq_false, iff_false]; exact rowAt_none h
  | some r => obtain ⟨h1, h2⟩ := rowAt_some h; simp only [Option.map_some, ne_eq, reduceCtorEq, not_false_eq_true, iff_true]; exact h2 ▸ List.mem_map_of_mem h1
/-- As many rows as names with a value. -/
theorem vm_len {m : List (ByteArray × Int)} (h1 : (m.map Prod.fst).Nodup) (h2 : (S.rows.map Rw.key).Nodup) (h : ∀ k, alook m k = S.get k) : m.length = S.rows.length := by
  have hp : (m.map Prod.fst).Perm (S.rows.map Rw.key) := (List.perm_ext_iff_of_nodup h1 h2).2 fun k => by rw [alook_mem, get_mem, h]
  simpa using hp.length_eq
/-- Nobody is on the way. -/
theorem end_no (ho : ShOk K S) (hc : ∀ v, v < K.work.length → S.canN K v = false) (v : Nat) (hv : v < K.work.length) (h : 1 ≤ (S.hand v).at_ ∧ (S.hand v).at_ ≤ 4) : False := by
  have h1 := ((ho.each v hv).inh (by omega)).1
  have hd : S.doneN K v = false := by
    unfold Sh.doneN
    simp only [Bool.or_eq_false_iff, decide_eq_false_iff_not]
    omega
  have hw : S.waitsN K v = false := by
    unfold Sh.waitsN
    rw [hd]
    rcases (show (S.hand v).at_ = 1 ∨ (S.hand v).at_ = 2 ∨ (S.hand v).at_ = 3 ∨ (S.hand v).at_ = 4 by omega) with e | e | e | e <;> rw [e] <;> rfl
  have := hc v hv
  unfold Sh.canN at this
  rw [hd, hw] at this
  cases this
structure EndOk (K : Wk) (S : Sh) : Prop where
  put : ∀ i (h : i < S.calls.length), okd S.calls[i] = true → S.calls[i].key ∉ ((S.calls.take i).filter okd).map Cl.key ∧ S.get S.calls[i].key = some S.calls[i].value
  len : (S.calls.filter okd).length = S.rows.length
  opn : ∀ v, v < K.work.length → S.doneN K v = false → ∃ c, openBy S.calls v = some c ∧ c.kind = 3 ∧ S.get c.key = none ∧ S.waitsN K v = true
theorem cAt_get (l : List Cl) (i : Nat) (h : i < l.length) : cAt l i = l[i] := by unfold cAt; simp [List.getD_eq_getElem?_getD, h]
theorem filter_len (l : List Cl) (p : Cl → Bool) : (l.filter p).length = ((List.range l.length).filter (fun i => p (cAt l i))).length := by
  have e : l = (List.range l.length).map (cAt l) := List.ext_getElem (by simp) fun i h1 h2 => by rw [List.getElem_map, List.getElem_range, cAt_get l i h1]
  have : (l.filter p).length = (((List.range l.length).map (cAt l)).filter p).length := by rw [← e]
  rw [this, List.filter_map, List.length_map]; rfl
theorem FOk.end_ok (HO : ∀ k, K.of k < K.shards) (HKD : ∀ v, ∀ a ∈ K.own v, 1 ≤ a.kind ∧ a.kind ≤ 3) (ho : ShOk K S) (h : FOk K S) (hc : ∀ v, v < K.work.length → S.canN K v = false) : EndOk K S := by
  obtain ⟨hC, defs, hD⟩ := h
  have hno := end_no ho hc
  have hnotopen : ∀ j ∈ defs, (cAt S.calls j).to ≠ -1 := fun j hj e => by
    obtain ⟨v, v1, v2, v3, v4⟩ := hD.opn j hj e
    exact hno v v1 (by omega)
  have hdef : ∀ j, j < S.calls.length → okd (cAt S.calls j) = true → j ∈ defs := fun j hj e => by
    unfold okd at e
    simp at e
    exact hD.done j hj e.1.1 (by omega) e.2
  have hrow : ∀ j, j ∈ defs → ∃ (a : Nat) (r : Rw), defs[a]? = some j ∧ S.rows[a]? = some r ∧ j < S.calls.length ∧ (cAt S.calls j).kind = 1 ∧ (cAt S.calls j).key = r.key ∧ (cAt S.calls j).value = r.val ∧ (cAt S.calls j).err = 0 := fun j hj => by
    obtain ⟨a, ha⟩ := List.getElem?_of_mem hj
    have hal : a < S.rows.length := by rw [← hD.len]; exact (List.getElem?_eq_some_iff.1 ha).1
    obtain ⟨q1, q2, q3, q4, q5⟩ := hD.row a j _ ha (List.getElem?_eq_getElem hal)
    exact ⟨a, _, ha, List.getElem?_eq_getElem hal, q1, q2, q3, q4, q5 (hnotopen j hj)⟩
  refine ⟨fun i hi e => ?_, ?_, fun v hv hd => ?_⟩
  · rw [← cAt_get S.calls i hi] at e ⊢
    obtain ⟨a, r, ha, hr, _, _, q3, q4, _⟩ := hrow i (hdef i hi e)
    refine ⟨fun hm => ?_, ?_⟩
    · obtain ⟨c, hcm, hck⟩ := List.mem_map.1 hm
      obtain ⟨hc1, hc2⟩ := List.mem_filter.1 hcm
      obtain ⟨j, hj, hje⟩ := List.getElem_of_mem hc1
      rw [List.length_take] at hj
      rw [List.getElem_take, ← cAt_get S.calls j (by omega)] at hje
      subst hje
      obtain ⟨b, r2, hb, hr2, _, _, p3, _, _⟩ := hrow j (hdef j (by omega) hc2)
      obtain ⟨ha1, ha2⟩ := List.getElem?_eq_some_iff.1 hr
      obtain ⟨hb1, hb2⟩ := List.getElem?_eq_some_iff.1 hr2
      have : b = a := (List.getElem_inj (xs := S.rows.map Rw.key) (h₀ := by simpa using hb1) (h₁ := by simpa using ha1) ho.keys).1 (by
        rw [List.getElem_map, List.getElem_map, hb2, ha2, ← p3, ← q3, hck])
      subst this
      rw [ha] at hb
      injection hb with hb
      omega
    · unfold Sh.get
      rw [q3, rowAt_mem ho.keys (List.mem_of_getElem? hr), q4]; rfl
  · rw [filter_len, ← hD.len]
    refine List.Perm.length_eq ((List.perm_ext_iff_of_nodup (List.nodup_range.filter _) hD.nd).2 fun j => ?_)
    rw [List.mem_filter, List.mem_range]
    refine ⟨fun h => hdef j h.1 h.2, fun hj => ?_⟩
    obtain ⟨a, r, ha, hr, q1, q2, q3, q4, q5⟩ := hrow j hj
    have h1 := hnotopen j hj
    have h2 := hC.tos j q1
    refine ⟨q1, ?_⟩
    unfold okd
    simp [q2, q5]
    omega
  · have hcv := hc v hv
    have hw : S.waitsN K v = true := by
      unfold Sh.canN at hcv
      rw [hd] at hcv
      simpa using hcv
    have hnx := ho.nx hv hd
    have h5 : (S.hand v).at_ = 5 := by
      by_cases h0 : (S.hand v).at_ = 0
      · exfalso
        have hw2 := hw
        unfold Sh.waitsN at hw2
        rw [hd, h0] at hw2
        simp at hw2
        have hlk : 0 ≤ S.lockOf K v := hw2.1
        unfold Sh.lockOf at hlk
        rcases ho.held (K.of (S.ask K v).key) (HO _) with h1 | ⟨u, u1, u2, u3, u4, _⟩
        · omega
        · exact hno u u1 ⟨u3, u4⟩
      · have h9 := ((ho.each v hv).inh h0).2.2
        refine Decidable.byContradiction fun hn => hno v hv (by omega)
    obtain ⟨k1, k2⟩ := (ho.each v hv).five h5
    have hmem : S.ask K v ∈ K.own v := by
      unfold Sh.ask
      rw [List.getD_eq_getElem?_getD, List.getElem?_eq_getElem hnx]
      exact List.getElem_mem hnx
    have hk3 : (S.ask K v).kind = 3 := by have := HKD v _ hmem; omega
    have ht : S.toldN (S.ask K v).key = false := by
      have hw2 := hw
      unfold Sh.waitsN at hw2
      rw [hd, h5] at hw2
      simpa using hw2
    have hg : S.get (S.ask K v).key = none := by
      unfold Sh.toldN at ht
      unfold Sh.get
      cases hr : rowAt S.rows (S.ask K v).key with
      | none => rfl
      | some r =>
        rw [hr] at ht
        obtain ⟨u, u1, u2, _⟩ := ho.untold r (rowAt_some hr).1 ht
        exact (hno u u1 (by omega)).elim
    obtain ⟨fr, hcw⟩ := hC.hand v hv (by omega)
    have hcl := ((ho.each v hv).inh (by omega)).2.1
    have hin : cAt S.calls (S.hand v).call ∈ S.calls.filter (fun c => decide (c.to < 0) && decide (c.w = (v : Int))) := by
      rw [List.mem_filter]
      refine ⟨by rw [cAt_get _ _ hcl]; exact List.getElem_mem hcl, ?_⟩
      rw [hcw]
      simp
    have hall : ∀ c ∈ S.calls.filter (fun c => decide (c.to < 0) && decide (c.w = (v : Int))), c = cAt S.calls (S.hand v).call := fun c hcm => by
      obtain ⟨c1, c2⟩ := List.mem_filter.1 hcm
      obtain ⟨j, hj, hje⟩ := List.getElem_of_mem c1
      rw [← cAt_get _ _ hj] at hje
      subst hje
      simp at c2
      have hto : (cAt S.calls j).to = -1 := (hC.tos j hj).resolve_right (by omega)
      obtain ⟨u, u1, u2, u3⟩ := hC.opens j hj hto
      obtain ⟨fr2, hcu⟩ := hC.hand u u1 u2
      rw [u3] at hcu
      have : u = v := by
        have h9 := c2.2
        rw [hcu] at h9
        have h9 : (u : Int) = v := h9
        omega
      subst this
      rw [u3]
    refine ⟨cAt S.calls (S.hand v).call, ?_, by rw [hcw]; exact hk3, by rw [hcw]; exact hg, hw⟩
    unfold openBy
    cases hx : (S.calls.filter (fun c => decide (c.to < 0) && decide (c.w = (v : Int)))).getLast? with
    | none => rw [List.getLast?_eq_none_iff] at hx; rw [hx] at hin; cases hin
    | some x => rw [hall x (List.mem_of_getLast? hx)]
/-- Every state that a run reaches is so. -/
theorem Reach.f_ok (HO : ∀ k, K.of k < K.shards) {S' : Sh} (h : Reach K S S') (hs : FOk K S) : FOk K S' := h (FOk K) hs (fun _ w ho hc hf => hf.step HO ho w hc)
end Go.Proofs.Ytabkmdhkfbcldaa
