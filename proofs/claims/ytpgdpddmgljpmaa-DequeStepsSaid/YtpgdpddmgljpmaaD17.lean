/-
  What the laws say, of the plain deque: alone, in order, each once.
-/
import Derived.Test.YtpgdpddmgljpmaaD13
namespace Go.Proofs.Ytpgdpddmgljpmaa

/-- All is done: what is there is what is left. -/
theorem Inv.all_done {S : Dq} {L : Int} {p : List Int} {x0 : Hd} {th : List Hd} (H : Inv S L p x0 th) (hd : x0.said.length = x0.ops.length) : p = [] ∧ con S L = S.left := by
  rcases H.own with ⟨_, h, hp⟩ | ⟨o, ho, _⟩
  · refine ⟨hp, ?_⟩
    unfold con Dq.left
    rw [h]
  · have := (List.getElem?_eq_some_iff.1 ho).1
    omega

/-! ### Alone -/
def stkStep (room : Nat) (st : List Int) (o : Int × Int) : List Int × (Bool × Int) :=
  if o.1 = 1 ∧ st.length < room then (st ++ [o.2], (true, o.2))
  else if o.1 = 2 ∧ 0 < st.length then (st.dropLast, (true, st.getLastD 0)) else (st, (false, 0))
def stkRun (room : Nat) : List (Int × Int) → List Int × List (Bool × Int) :=
  List.foldl (fun z o => ((stkStep room z.1 o).1, z.2 ++ [(stkStep room z.1 o).2])) ([], [])
theorem stkRun_snoc (room : Nat) (l : List (Int × Int)) (o : Int × Int) : stkRun room (l ++ [o]) = ((stkStep room (stkRun room l).1 o).1, (stkRun room l).2 ++ [(stkStep room (stkRun room l).1 o).2]) := by
  unfold stkRun; rw [List.foldl_append]; rfl
theorem tr_stk {o : Int × Int} {room : Nat} {C p C' p' : List Int} {a : Option (Bool × Int)} (h : Tr 0 o room C p a C' p') (ho : o.1 = 1 ∨ o.1 = 2) :
    (a = none ∧ C' ++ p' = C ++ p) ∨ (∃ an, a = some an ∧ stkStep room (C ++ p) o = (C' ++ p', an)) := by
  rcases h with ⟨ha, rfl, rfl⟩ | ⟨ha, _, v, rfl, rfl, rfl, rfl⟩ | ⟨_, h1, rfl, rfl, h⟩ | ⟨_, h1, rfl, h⟩ | ⟨h0, _⟩
  · exact .inl ⟨ha, rfl⟩
  · exact .inl ⟨ha, rfl⟩
  · rcases h with ⟨rfl, rfl, hl⟩ | ⟨rfl, rfl, hl⟩
    · refine .inr ⟨_, rfl, ?_⟩
      unfold stkStep
      rw [if_pos ⟨h1, by simpa using hl⟩]; simp
    · refine .inr ⟨_, rfl, ?_⟩
      unfold stkStep
      rw [if_neg (by rintro ⟨_, h⟩; simp at h; omega), if_neg (by rintro ⟨h, _⟩; omega)]
  · have h2 : o.1 = 2 := by omega
    rcases h with ⟨rfl, rfl, rfl, rfl⟩ | ⟨v, rfl, rfl, rfl⟩ | ⟨v, rfl, rfl, rfl, rfl⟩
    · refine .inr ⟨_, rfl, ?_⟩
      unfold stkStep
      rw [if_neg (by rintro ⟨h, _⟩; omega), if_neg (by rintro ⟨_, h⟩; simp at h)]
    · refine .inr ⟨_, rfl, ?_⟩
      unfold stkStep
      rw [if_neg (by rintro ⟨h, _⟩; omega), if_pos ⟨h2, by simp⟩]; simp
    · refine .inr ⟨_, rfl, ?_⟩
      unfold stkStep
      rw [if_neg (by rintro ⟨h, _⟩; omega), if_pos ⟨h2, by simp⟩]; simp
  · exact absurd rfl h0
def AloneI (room : Nat) (own : List (Int × Int)) (S : Dq) : Prop :=
  ∃ L p x0, Inv S L p x0 [] ∧ x0.ops = own ∧ S.pl.length = room ∧ stkRun room (own.take x0.said.length) = (con S L ++ p, x0.said)
theorem AloneI.step {room : Nat} {own : List (Int × Int)} {S : Dq} (h : AloneI room own S) (hd : S.doneN 0 = false) : AloneI room own (S.stepN 0) := by
  obtain ⟨L, p, x0, H, hops, hroom, hrun⟩ := h
  obtain ⟨i, e, hi, hne⟩ := doneN_false hd
  obtain rfl : i = 0 := by omega
  rw [show (0 : Int) = ((0 : Nat) : Int) from rfl] at hd ⊢
  rw [stepN_not hd]
  have hx : S.hs[0]? = some x0 := by rw [H.hs]; rfl
  have hx0 : S.hs[0] = x0 := by simp [H.hs]
  rw [hx0] at hne
  have hle := H.len x0 (by rw [H.hs]; simp)
  have ho : x0.ops[x0.said.length]? = some x0.ops[x0.said.length] := List.getElem?_eq_getElem (by omega)
  generalize x0.ops[x0.said.length] = o at ho
  have hk := H.ops o (List.mem_of_getElem? ho)
  obtain ⟨L', p', x0', th', x', a, h1, h2, h3, h4, h5, h6, h7, h8⟩ := (any_step H 0 x0 hx ho).ex
  have hth : x0' :: th' = [x'] := by rw [← h1.hs, h2, H.hs]; rfl
  obtain ⟨rfl, rfl⟩ : x0' = x' ∧ th' = [] := by simpa using hth
  refine ⟨L', p', x0', h1, h3.trans hops, h5.trans hroom, ?_⟩
  rw [hroom] at h8
  rcases tr_stk h8 hk with ⟨rfl, hc⟩ | ⟨an, rfl, hc⟩
  · rw [h4, hc]; simpa using hrun
  · rw [h4]
    simp only [Option.toList_some, List.length_append, List.length_singleton]
    have hl : x0.said.length < own.length := by rw [← hops]; exact (List.getElem?_eq_some_iff.1 ho).1
    rw [Go.Proofs.Ytpgdpddmgljpmaa.take_succ own _ hl, stkRun_snoc, hrun]
    have : own[x0.said.length] = o := by
      have := ho; simp only [hops] at this
      rw [List.getElem?_eq_getElem hl] at this
      exact Option.some.inj this
    rw [this, hc]
theorem AloneI.new {r : Int} {own : List (Int × Int)} (h : newE r own [] = 0) : AloneI r.toNat own (newDq r.toNat own []) := by
  obtain ⟨L, p, x0, th, H⟩ := good_new h
  have hs := H.hs
  have e : x0 = hd0 own ∧ th = [] := by simpa [newDq, eq_comm] using hs
  obtain ⟨rfl, rfl⟩ := e
  refine ⟨L, p, _, H, rfl, by simp [newDq], ?_⟩
  rcases H.own with ⟨_, h, hp⟩ | ⟨o, ho, h⟩
  · subst hp
    show stkRun r.toNat [] = (con _ L ++ [], [])
    rw [con_empty (by rw [h]; exact Int.le_refl _)]; rfl
  · simp [hd0] at h
theorem AloneI.end {room : Nat} {own : List (Int × Int)} {S : Dq} (h : AloneI room own S) (hd : S.doneN 0 = true) : stkRun room own = (S.left, S.answers 0) ∧ (S.answers 0).length = own.length := by
  obtain ⟨L, p, x0, H, hops, hroom, hrun⟩ := h
  have hdx : x0.said.length = x0.ops.length := by
    unfold Dq.doneN at hd
    rw [H.hs] at hd
    simpa [Hd.done] using hd
  have ha : S.answers 0 = x0.said := by unfold Dq.answers; rw [H.hs]; simp
  obtain ⟨hp, hc⟩ := H.all_done hdx
  rw [hdx, hops, List.take_length, hp, hc] at hrun
  rw [ha]
  exact ⟨by simpa using hrun, by rw [hdx, hops]⟩

/-! ### In order -/
def okvals (l : List (Bool × Int)) : List Int := (l.filter (·.1)).map (·.2)
theorem okvals_app (l m : List (Bool × Int)) : okvals (l ++ m) = okvals l ++ okvals m := by simp [okvals]
theorem okvals_no (l : List (Bool × Int)) : okvals (l ++ [(false, 0)]) = okvals l := by simp [okvals]
theorem okvals_yes (l : List (Bool × Int)) (v : Int) : okvals (l ++ [(true, v)]) = okvals l ++ [v] := by simp [okvals]
/-- The pushes of these operations have rising values, from m on. -/
def Rise (m : Int) (ops : List (Int × Int)) : Prop := ∀ (o : Int × Int), o ∈ ops → o.1 = 1 → m < o.2
def RiseAll (ops : List (Int × Int)) : Prop := ops.Pairwise (fun a b => a.1 = 1 → b.1 = 1 → a.2 < b.2) ∧ ∀ o ∈ ops, o.1 = 1 → 0 < o.2
structure ThO (C : List Int) (m : Int) (x : Hd) : Prop where
  up : (okvals x.said).Pairwise (· < ·)
  pos : ∀ v ∈ okvals x.said, 0 < v
  le : ∀ v ∈ okvals x.said, v ≤ m
  lt : ∀ v ∈ okvals x.said, ∀ c ∈ C, v < c
  no : ∀ a ∈ x.said, a.1 = false → a.2 = 0
def OrdI (own : List (Int × Int)) (S : Dq) : Prop :=
  ∃ L p x0 th m, Inv S L p x0 th ∧ x0.ops = own ∧ (con S L).Pairwise (· < ·) ∧ (∀ v ∈ con S L, 0 < v) ∧ (∀ v ∈ con S L, v ≤ m) ∧ Rise m (own.drop x0.said.length) ∧ ∀ x ∈ th, ThO (con S L) m x
theorem drop_get {α : Type} {l : List α} {k : Nat} {o : α} (h : l[k]? = some o) : l.drop k = o :: l.drop (k + 1) := by
  obtain ⟨hk, rfl⟩ := List.getElem?_eq_some_iff.1 h
  exact List.drop_eq_getElem_cons hk
theorem ThO.sub {C C' : List Int} {m m' : Int} {x : Hd} (h : ThO C m x) (hm : m ≤ m') (hC : ∀ c ∈ C', c ∈ C ∨ m < c) : ThO C' m' x :=
  ⟨h.up, h.pos, fun v hv => Int.le_trans (h.le v hv) hm, fun v hv c hc => (hC c hc).elim (h.lt v hv c) (fun h2 => by have := h.le v hv; omega), h.no⟩
theorem OrdI.step {own : List (Int × Int)} {S : Dq} (hr : RiseAll own) (h : OrdI own S) (n : Int) (hd : S.doneN n = false) : OrdI own (S.stepN n) := by
  obtain ⟨L, p, x0, th, m, H, hops, hC, hpos, hm, hrise, hth⟩ := h
  obtain ⟨i, rfl, hi, hne⟩ := doneN_false hd
  rw [stepN_not hd]
  have hx : S.hs[i]? = some S.hs[i] := List.getElem?_eq_getElem hi
  have hle := H.len _ (List.getElem_mem hi)
  have ho : S.hs[i].ops[S.hs[i].said.length]? = some S.hs[i].ops[S.hs[i].said.length] := List.getElem?_eq_getElem (by omega)
  generalize S.hs[i].ops[S.hs[i].said.length] = o at ho
  generalize S.hs[i] = x at *
  obtain ⟨L', p', x0', th', x', a, h1, h2, h3, h4, h5, h6, h7, h8⟩ := (any_step H i x hx ho).ex
  have hhs : x0' :: th' = (x0 :: th).set i x' := by rw [← h1.hs, h2, H.hs]
  generalize con S L = C at *
  generalize hC' : con (S.step i) L' = C' at *
  cases i with
  | zero =>
    obtain ⟨rfl, rfl⟩ : x0' = x' ∧ th' = th := by simpa using hhs
    obtain rfl : x0 = x := by rw [H.hs] at hx; simpa using hx
    have hops' : x0'.ops = own := h3.trans hops
    rw [hops] at ho
    have hdr := drop_get ho
    have hrise1 : Rise m (own.drop (x0.said.length + 1)) := fun q hq h => hrise q (by rw [hdr]; exact List.mem_cons_of_mem _ hq) h
    -- whatever is told, with fewer values
    have less : (∀ c ∈ C', c ∈ C) → C'.Pairwise (· < ·) → Rise m (own.drop x0'.said.length) → OrdI own (S.step 0) := fun hs hp hri =>
      ⟨L', p', x0', th', m, h1, hops', by rw [hC']; exact hp, by rw [hC']; exact fun v hv => hpos v (hs v hv), by rw [hC']; exact fun v hv => hm v (hs v hv), hri, fun y hy => by rw [hC']; exact (hth y hy).sub (Int.le_refl _) (fun c hc => .inl (hs c hc))⟩
    have hsome : ∀ an, a = some an → x0'.said.length = x0.said.length + 1 := fun an e => by rw [h4, e]; simp
    rcases h8 with ⟨ha, rfl, _⟩ | ⟨ha, _, v, rfl, rfl, _⟩ | ⟨_, k1, _, _, ⟨ha, rfl, _⟩ | ⟨ha, rfl, _⟩⟩ | ⟨_, k1, _, ⟨ha, rfl, rfl, _⟩ | ⟨v, ha, _, rfl⟩ | ⟨v, ha, _, rfl, rfl⟩⟩ | ⟨h0, _⟩
    · exact less (fun c hc => hc) hC (by rw [h4, ha]; simpa using hrise)
    · exact less (fun c hc => by cases hc) List.Pairwise.nil (by rw [h4, ha]; simpa using hrise)
    · have hmo := hrise o (by rw [hdr]; simp) k1
      have hoo : o ∈ own := List.mem_of_getElem? ho
      refine ⟨L', p', x0', th', o.2, h1, hops', ?_, ?_, ?_, ?_, ?_⟩
      · rw [hC', List.pairwise_append]
        exact ⟨hC, List.pairwise_singleton _ _, fun c hc d hd => by have := hm c hc; simp at hd; omega⟩
      · rw [hC']; intro v hv
        rcases List.mem_append.1 hv with hv | hv
        · exact hpos v hv
        · simp at hv; rw [hv]; exact hr.2 o hoo k1
      · rw [hC']; intro v hv
        rcases List.mem_append.1 hv with hv | hv
        · have := hm v hv; omega
        · simp at hv; omega
      · rw [hsome _ ha]
        intro q hq hq1
        have hp := hr.1.drop (i := x0.said.length)
        rw [hdr] at hp
        exact (List.pairwise_cons.1 hp).1 q hq k1 hq1
      · intro y hy
        rw [hC']
        refine (hth y hy).sub (by omega) (fun c hc => ?_)
        rcases List.mem_append.1 hc with hc | hc
        · exact .inl hc
        · simp at hc; exact .inr (by omega)
    · exact less (fun c hc => hc) hC (by rw [hsome _ ha]; exact hrise1)
    · exact less (fun c hc => hc) hC (by rw [hsome _ ha]; exact hrise1)
    · exact less (fun c hc => List.mem_append_left _ hc) (List.pairwise_append.1 hC).1 (by rw [hsome _ ha]; exact hrise1)
    · exact less (fun c hc => hc) hC (by rw [hsome _ ha]; exact hrise1)
    · exact absurd rfl h0
  | succ k =>
    obtain ⟨rfl, rfl⟩ : x0' = x0 ∧ th' = th.set k x' := by simpa using hhs
    have hxk : th[k]? = some x := by rw [H.hs] at hx; simpa using hx
    have hX := hth x (List.mem_of_getElem? hxk)
    have fin : (∀ c ∈ C', c ∈ C) → C'.Pairwise (· < ·) → ThO C' m x' → OrdI own (S.step (k + 1)) := fun hs hp hx' =>
      ⟨L', p', x0', _, m, h1, hops, by rw [hC']; exact hp, by rw [hC']; exact fun v hv => hpos v (hs v hv), by rw [hC']; exact fun v hv => hm v (hs v hv), hrise, fun y hy => by
        rw [hC']
        rcases List.mem_or_eq_of_mem_set hy with hy | rfl
        · exact (hth y hy).sub (Int.le_refl _) (fun c hc => .inl (hs c hc))
        · exact hx'⟩
    rcases h8 with ⟨ha, rfl, _⟩ | ⟨ha, h0, _⟩ | ⟨h0, _⟩ | ⟨h0, _⟩ | ⟨_, _, ⟨ha, rfl⟩ | ⟨v, ha, rfl⟩⟩
    · refine fin (fun c hc => hc) hC ?_
      have e : x'.said = x.said := by rw [h4, ha]; simp
      exact ⟨by rw [e]; exact hX.up, by rw [e]; exact hX.pos, by rw [e]; exact hX.le, by rw [e]; exact hX.lt, by rw [e]; exact hX.no⟩
    · omega
    · omega
    · omega
    · refine fin (fun c hc => hc) hC ?_
      have e : x'.said = x.said ++ [(false, 0)] := by rw [h4, ha]; rfl
      have e2 : okvals x'.said = okvals x.said := by rw [e, okvals_no]
      refine ⟨by rw [e2]; exact hX.up, by rw [e2]; exact hX.pos, by rw [e2]; exact hX.le, by rw [e2]; exact hX.lt, ?_⟩
      rw [e]; intro b hb hb2
      rcases List.mem_append.1 hb with hb | hb
      · exact hX.no b hb hb2
      · simp at hb; rw [hb]
    · have hCC := List.pairwise_cons.1 hC
      refine fin (fun c hc => List.mem_cons_of_mem _ hc) hCC.2 ?_
      have e : x'.said = x.said ++ [(true, v)] := by rw [h4, ha]; rfl
      have e2 : okvals x'.said = okvals x.said ++ [v] := by rw [e, okvals_yes]
      have hv : v ∈ v :: C' := List.mem_cons_self
      refine ⟨?_, ?_, ?_, ?_, ?_⟩
      · rw [e2, List.pairwise_append]
        exact ⟨hX.up, List.pairwise_singleton _ _, fun c hc d hd => by simp at hd; rw [hd]; exact hX.lt c hc v hv⟩
      · rw [e2]; intro u hu
        rcases List.mem_append.1 hu with hu | hu
        · exact hX.pos u hu
        · simp at hu; rw [hu]; exact hpos v hv
      · rw [e2]; intro u hu
        rcases List.mem_append.1 hu with hu | hu
        · exact hX.le u hu
        · simp at hu; rw [hu]; exact hm v hv
      · rw [e2]; intro u hu c hc
        rcases List.mem_append.1 hu with hu | hu
        · exact hX.lt u hu c (List.mem_cons_of_mem _ hc)
        · simp at hu; rw [hu]; exact hCC.1 c hc
      · rw [e]; intro b hb hb2
        rcases List.mem_append.1 hb with hb | hb
        · exact hX.no b hb hb2
        · simp at hb; rw [hb] at hb2; cases hb2
theorem good_new_hs {r : Int} {own : List (Int × Int)} {ths : List Int} (h : newE r own ths = 0) :
    ∃ L p, Inv (newDq r.toNat own ths) L p (hd0 own) (ths.map (fun n => hd0 (List.replicate n.toNat (3, 0)))) ∧ con (newDq r.toNat own ths) L = [] ∧ p = [] := by
  obtain ⟨L, p, x0, th, H⟩ := good_new h
  have hs := H.hs
  have e : x0 = hd0 own ∧ th = ths.map (fun n => hd0 (List.replicate n.toNat (3, 0))) := by
    have : hd0 own = x0 ∧ ths.map (fun n => hd0 (List.replicate n.toNat (3, 0))) = th := by simpa only [newDq, List.cons.injEq] using hs
    exact ⟨this.1.symm, this.2.symm⟩
  obtain ⟨rfl, rfl⟩ := e
  refine ⟨L, p, H, ?_⟩
  rcases H.own with ⟨_, h, hp⟩ | ⟨o, ho, h⟩
  · exact ⟨con_empty (by rw [h]; exact Int.le_refl _), hp⟩
  · simp [hd0] at h
theorem OrdI.new {r : Int} {own : List (Int × Int)} {ths : List Int} (h : newE r own ths = 0) (hr : RiseAll own) : OrdI own (newDq r.toNat own ths) := by
  obtain ⟨L, p, H, hc, hp⟩ := good_new_hs h
  refine ⟨L, p, _, _, 0, H, rfl, by rw [hc]; exact List.Pairwise.nil, by rw [hc]; simp, by rw [hc]; simp, fun o ho h1 => hr.2 o ?_ h1, ?_⟩
  · exact List.mem_of_mem_drop ho
  · intro x hx
    obtain ⟨n, _, rfl⟩ := List.mem_map.1 hx
    rw [hc]
    exact ⟨by simp [hd0, okvals], by simp [hd0, okvals], by simp [hd0, okvals], by simp [hd0, okvals], by simp [hd0]⟩

/-! ### Each once -/
/-- The values that were put. -/
def puts (ops : List (Int × Int)) (said : List (Bool × Int)) : List Int := ((ops.zip said).filter (fun z => z.2.1 && z.1.1 == 1)).map (fun z => z.1.2)
/-- The values that the owner took. -/
def gots (ops : List (Int × Int)) (said : List (Bool × Int)) : List Int := ((ops.zip said).filter (fun z => z.2.1 && z.1.1 != 1)).map (fun z => z.2.2)
theorem zip_snoc {ops : List (Int × Int)} {said : List (Bool × Int)} {o : Int × Int} (a : Bool × Int) (h : ops[said.length]? = some o) : ops.zip (said ++ [a]) = ops.zip said ++ [(o, a)] := by
  obtain ⟨hl, rfl⟩ := List.getElem?_eq_some_iff.1 h
  have e : ops = ops.take said.length ++ ops[said.length] :: ops.drop (said.length + 1) := by rw [← List.drop_eq_getElem_cons hl, List.take_append_drop]
  have hlt : (ops.take said.length).length = said.length := by rw [List.length_take]; omega
  conv => lhs; rw [e]
  rw [List.zip_append hlt]
  have e2 : ops.zip said = (ops.take said.length).zip said := by
    conv => lhs; rw [← List.take_append_drop said.length ops, ← List.append_nil said]
    rw [List.zip_append (by simpa using hlt)]; simp
  rw [e2]
  congr 1
  simp only [List.zip_cons_cons, List.zip_nil_right]
theorem puts_snoc {ops : List (Int × Int)} {said : List (Bool × Int)} {o : Int × Int} (a : Bool × Int) (h : ops[said.length]? = some o) : puts ops (said ++ [a]) = puts ops said ++ (if a.1 && o.1 == 1 then [o.2] else []) := by
  unfold puts
  rw [zip_snoc a h, List.filter_append, List.map_append]
  congr 1
  by_cases hc : (a.1 && o.1 == 1) = true
  · rw [if_pos hc]; simp [List.filter_cons, hc]
  · rw [if_neg hc]; simp only [List.filter_cons]; rw [if_neg hc]; rfl
theorem gots_snoc {ops : List (Int × Int)} {said : List (Bool × Int)} {o : Int × Int} (a : Bool × Int) (h : ops[said.length]? = some o) : gots ops (said ++ [a]) = gots ops said ++ (if a.1 && o.1 != 1 then [a.2] else []) := by
  unfold gots
  rw [zip_snoc a h, List.filter_append, List.map_append]
  congr 1
  by_cases hc : (a.1 && o.1 != 1) = true
  · rw [if_pos hc]; simp [List.filter_cons, hc]
  · rw [if_neg hc]; simp only [List.filter_cons]; rw [if_neg hc]; rfl
theorem count_set (v : Int) (f : Hd → List Int) : ∀ (th : List Hd) (k : Nat) (x x' : Hd), th[k]? = some x → ((th.set k x').flatMap f).count v + (f x).count v = (th.flatMap f).count v + (f x').count v
  | [], k, x, x', h => by simp at h
  | a :: b, 0, x, x', h => by
    obtain rfl : a = x := by simpa using h
    simp only [List.set_cons_zero, List.flatMap_cons, List.count_append]; omega
  | a :: b, k + 1, x, x', h => by
    have := count_set v f b k x x' (by simpa using h)
    simp only [List.set_cons_succ, List.flatMap_cons, List.count_append] at this ⊢; omega
def OnceI (own : List (Int × Int)) (S : Dq) : Prop :=
  ∃ L p x0 th, Inv S L p x0 th ∧ x0.ops = own ∧ ∀ v, (puts own x0.said).count v = (gots own x0.said).count v + (th.flatMap (fun x => okvals x.said)).count v + (con S L).count v + p.count v
theorem OnceI.step {own : List (Int × Int)} {S : Dq} (h : OnceI own S) (n : Int) (hd : S.doneN n = false) : OnceI own (S.stepN n) := by
  obtain ⟨L, p, x0, th, H, hops, hcnt⟩ := h
  obtain ⟨i, rfl, hi, hne⟩ := doneN_false hd
  rw [stepN_not hd]
  have hx : S.hs[i]? = some S.hs[i] := List.getElem?_eq_getElem hi
  have hle := H.len _ (List.getElem_mem hi)
  have ho : S.hs[i].ops[S.hs[i].said.length]? = some S.hs[i].ops[S.hs[i].said.length] := List.getElem?_eq_getElem (by omega)
  generalize S.hs[i].ops[S.hs[i].said.length] = o at ho
  generalize S.hs[i] = x at *
  obtain ⟨L', p', x0', th', x', a, h1, h2, h3, h4, h5, h6, h7, h8⟩ := (any_step H i x hx ho).ex
  have hhs : x0' :: th' = (x0 :: th).set i x' := by rw [← h1.hs, h2, H.hs]
  generalize con S L = C at *
  generalize hC' : con (S.step i) L' = C' at *
  cases i with
  | zero =>
    obtain ⟨rfl, rfl⟩ : x0' = x' ∧ th' = th := by simpa using hhs
    obtain rfl : x0 = x := by rw [H.hs] at hx; simpa using hx
    refine ⟨L', p', x0', th', h1, h3.trans hops, fun v => ?_⟩
    rw [hops] at ho
    have hv := hcnt v
    rw [hC']
    have hp := fun an => puts_snoc (said := x0.said) an ho
    have hg := fun an => gots_snoc (said := x0.said) an ho
    rcases h8 with ⟨ha, rfl, rfl⟩ | ⟨ha, _, u, rfl, rfl, rfl, rfl⟩ | ⟨_, k1, rfl, rfl, ⟨ha, rfl, _⟩ | ⟨ha, rfl, _⟩⟩ | ⟨_, k1, rfl, ⟨ha, rfl, rfl, rfl⟩ | ⟨u, ha, rfl, rfl⟩ | ⟨u, ha, rfl, rfl, rfl⟩⟩ | ⟨h0, _⟩
    · rw [h4, ha]; simpa using hv
    · rw [h4, ha]; simpa using hv
    · rw [h4, ha, Option.toList_some, hp, hg]; simp [k1] at hv ⊢; omega
    · rw [h4, ha, Option.toList_some, hp, hg]; simp at hv ⊢; omega
    · rw [h4, ha, Option.toList_some, hp, hg]; simp at hv ⊢; omega
    · rw [h4, ha, Option.toList_some, hp, hg]; simp [k1] at hv ⊢; omega
    · rw [h4, ha, Option.toList_some, hp, hg]; simp [k1] at hv ⊢; omega
    · exact absurd rfl h0
  | succ k =>
    obtain ⟨rfl, rfl⟩ : x0' = x0 ∧ th' = th.set k x' := by simpa using hhs
    have hxk : th[k]? = some x := by rw [H.hs] at hx; simpa using hx
    refine ⟨L', p', x0', _, h1, hops, fun v => ?_⟩
    have hv := hcnt v
    have hs := count_set v (fun x => okvals x.said) th k x x' hxk
    rw [hC']
    rcases h8 with ⟨ha, rfl, rfl⟩ | ⟨ha, h0, _⟩ | ⟨h0, _⟩ | ⟨h0, _⟩ | ⟨_, rfl, ⟨ha, rfl⟩ | ⟨u, ha, rfl⟩⟩
    · have e : x'.said = x.said := by rw [h4, ha]; simp
      rw [e] at hs; omega
    · omega
    · omega
    · omega
    · have e : x'.said = x.said ++ [(false, 0)] := by rw [h4, ha]; rfl
      rw [e, okvals_no] at hs; omega
    · have e : x'.said = x.said ++ [(true, u)] := by rw [h4, ha]; rfl
      rw [e, okvals_yes, List.count_append] at hs
      have e2 : (u :: C').count v = C'.count v + [u].count v := by rw [show u :: C' = [u] ++ C' from rfl, List.count_append]; omega
      omega
theorem OnceI.new {r : Int} {own : List (Int × Int)} {ths : List Int} (h : newE r own ths = 0) : OnceI own (newDq r.toNat own ths) := by
  obtain ⟨L, p, H, hc, hp⟩ := good_new_hs h
  refine ⟨L, p, _, _, H, rfl, fun v => ?_⟩
  rw [hc, hp]
  have e : (ths.map (fun n => hd0 (List.replicate n.toNat (3, 0)))).flatMap (fun x => okvals x.said) = [] := by
    rw [List.flatMap_eq_nil_iff]
    intro x hx
    obtain ⟨n, _, rfl⟩ := List.mem_map.1 hx
    rfl
  rw [e]
  simp [puts, gots, hd0]
end Go.Proofs.Ytpgdpddmgljpmaa
