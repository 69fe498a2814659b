/-
  The plain law of a deque: what each access does to the row of values that are there.
-/
import Derived.Test.YtpgdpddmgljpmaaD7
namespace Go.Proofs.Ytpgdpddmgljpmaa

theorem slot_ne {pl : List Int} {n b : Int} (h0 : 0 ≤ n) (h1 : n < b) (h2 : b - n < pl.length) : slot pl n ≠ slot pl b := by
  unfold slot
  intro e
  have h3 := Nat.sub_mod_eq_zero_of_mod_eq e.symm
  rw [Nat.mod_eq_of_lt (by omega)] at h3
  omega
theorem slot_put (pl : List Int) (b v n : Int) : slot (putP pl b v) n = slot pl n := by unfold slot; rw [putP_len]
theorem get_put {pl : List Int} {n b : Int} (v : Int) (h0 : 0 ≤ n) (h1 : n < b) (h2 : b - n < pl.length) : getP (putP pl b v) n = getP pl n := by
  unfold getP
  rw [slot_put]
  unfold putP
  rw [List.getD_eq_getElem?_getD, List.getD_eq_getElem?_getD, List.getElem?_set_ne (fun e => slot_ne h0 h1 h2 e.symm)]
theorem get_put_same {pl : List Int} (b v : Int) (hl : 0 < pl.length) : getP (putP pl b v) b = v := by
  unfold getP
  rw [slot_put]
  unfold putP
  rw [List.getD_eq_getElem?_getD, List.getElem?_set_self (slot_lt pl b hl)]
  rfl
theorem leftP_put (pl : List Int) (t b v : Int) (n : Nat) (h0 : 0 ≤ t) (h1 : t + n ≤ b) (h2 : b - t < pl.length) : leftP (putP pl b v) t n = leftP pl t n := by
  unfold leftP
  apply List.map_congr_left
  intro k hk
  have := List.mem_range.1 hk
  exact get_put v (by omega) (by omega) (by omega)
theorem leftP_cons (pl : List Int) (t : Int) (n : Nat) : leftP pl t (n + 1) = getP pl t :: leftP pl (t + 1) n := by
  unfold leftP
  rw [List.range_succ_eq_map, List.map_cons, List.map_map]
  congr 1
  · simp
  · apply List.map_congr_left; intro k _; simp only [Function.comp]; congr 1; omega
theorem leftP_len (pl : List Int) (t : Int) (n : Nat) : (leftP pl t n).length = n := by simp [leftP]

/-- The values that are there. -/
def con (S : Dq) (L : Int) : List Int := leftP S.pl S.top (L - S.top).toNat

/-- Where the values end (L), and what the owner has won but not told (p). -/
def OwnI (S : Dq) (x : Hd) (L : Int) (p : List Int) : Prop :=
  (x.at_ = 0 ∧ L = S.bottom ∧ p = []) ∨
  ∃ o, x.ops[x.said.length]? = some o ∧
    ((o.1 = 1 ∧ x.b = S.bottom ∧ L = S.bottom ∧ L - S.top < S.pl.length ∧ p = [] ∧ (x.at_ = 1 ∨ (x.at_ = 2 ∧ getP S.pl x.b = o.2))) ∨
     (o.1 ≠ 1 ∧ x.b = S.bottom + 1 ∧ L = x.b ∧
       ((x.at_ = 1 ∧ p = []) ∨
        (x.at_ = 2 ∧ p = [] ∧ 0 ≤ x.t ∧ x.t ≤ S.top ∧ (S.top ≤ S.bottom ∨ S.bottom ≤ x.t)) ∨
        (x.at_ = 3 ∧ S.top = L ∧ 0 ≤ S.bottom ∧ p = if x.won then [getP S.pl S.bottom] else []))))
def popping (x : Hd) : Prop := x.at_ = 2 ∧ ∃ o, x.ops[x.said.length]? = some o ∧ o.1 ≠ 1
structure ThI (S : Dq) (x0 : Hd) (L : Int) (x : Hd) : Prop where
  a0 : 0 ≤ x.at_
  a3 : x.at_ ≤ 3
  t0 : 0 ≤ x.t
  tt : 1 ≤ x.at_ → x.t ≤ S.top
  tl : 2 ≤ x.at_ → x.t = S.top → x.t < L
  tv : x.at_ = 3 → x.t = S.top → x.v = getP S.pl x.t
  tp : 2 ≤ x.at_ → popping x0 → x.t < S.bottom ∨ x.t ≤ x0.t
  op : x.at_ ≠ 0 → x.said.length < x.ops.length
/-- What holds of a deque that calls made. -/
structure Inv (S : Dq) (L : Int) (p : List Int) (x0 : Hd) (th : List Hd) : Prop where
  hs : S.hs = x0 :: th
  own : OwnI S x0 L p
  ops : ∀ o ∈ x0.ops, o.1 = 1 ∨ o.1 = 2
  thi : ∀ x ∈ th, ThI S x0 L x
  tho : ∀ x ∈ th, ∀ o ∈ x.ops, o.1 = 3
  len : ∀ x ∈ S.hs, x.said.length ≤ x.ops.length
  few : ∀ x ∈ S.hs, x.ops.length ≤ 4096
  t0 : 0 ≤ S.top
  tL : S.top ≤ L
  room : L - S.top ≤ S.pl.length
  r1 : 0 < S.pl.length
  r2 : S.pl.length ≤ 256
  c0 : L ≤ S.count
  cb : ∀ x ∈ S.hs, -1 - S.count ≤ x.b ∧ x.b ≤ S.count + 1

/-- What an access of worker i at operation o tells (a), and does to the values there (C) and won (p). -/
def Tr (i : Nat) (o : Int × Int) (room : Nat) (C p : List Int) (a : Option (Bool × Int)) (C' p' : List Int) : Prop :=
  (a = none ∧ C' = C ∧ p' = p) ∨
  (a = none ∧ i = 0 ∧ ∃ v, C = [v] ∧ C' = [] ∧ p = [] ∧ p' = [v]) ∨
  (i = 0 ∧ o.1 = 1 ∧ p = [] ∧ p' = [] ∧ ((a = some (true, o.2) ∧ C' = C ++ [o.2] ∧ C.length < room) ∨ (a = some (false, 0) ∧ C' = C ∧ C.length = room))) ∨
  (i = 0 ∧ o.1 ≠ 1 ∧ p' = [] ∧ ((a = some (false, 0) ∧ C = [] ∧ C' = [] ∧ p = []) ∨ (∃ v, a = some (true, v) ∧ p = [] ∧ C = C' ++ [v]) ∨ (∃ v, a = some (true, v) ∧ p = [v] ∧ C = [] ∧ C' = []))) ∨
  (i ≠ 0 ∧ p' = p ∧ ((a = some (false, 0) ∧ C' = C) ∨ (∃ v, a = some (true, v) ∧ C = v :: C')))
/-- What came of an access: the worker's state behind it. -/
structure Did (S : Dq) (L : Int) (p : List Int) (i : Nat) (x : Hd) (o : Int × Int) (S' : Dq) : Prop where
  ex : ∃ L' p' x0' th' x' a, Inv S' L' p' x0' th' ∧ S'.hs = S.hs.set i x' ∧ x'.ops = x.ops ∧ x'.said = x.said ++ a.toList ∧ S'.pl.length = S.pl.length ∧ S'.count = S.count + 1 ∧
    ((a = none ∧ x'.at_ = x.at_ + 1 ∧ x'.at_ ≤ 3) ∨ (a.isSome ∧ x'.at_ = 0)) ∧ Tr i o S.pl.length (con S L) p a (con S' L') p'

variable {S : Dq} {L : Int} {p : List Int} {x0 : Hd} {th : List Hd} {o : Int × Int}

/-- An access of the owner: what is to be shown of it. -/
theorem own_did (H : Inv S L p x0 th) (ho : x0.ops[x0.said.length]? = some o) (s : SS) (a : Option (Bool × Int)) (L' : Int) (p' : List Int)
    (hcount : s.count = S.count + 1) (hsaid : s.said = x0.said ++ a.toList) (hpl : s.pl.length = S.pl.length)
    (hat : (a = none ∧ s.at_ = x0.at_ + 1 ∧ s.at_ ≤ 3) ∨ (a.isSome ∧ s.at_ = 0))
    (hown : OwnI (S.upd 0 x0 s) ⟨x0.ops, s.said, s.at_, s.t, s.b, s.v, s.won⟩ L' p')
    (hth : ∀ x ∈ th, ThI S x0 L x → ThI (S.upd 0 x0 s) ⟨x0.ops, s.said, s.at_, s.t, s.b, s.v, s.won⟩ L' x)
    (t0 : 0 ≤ s.top) (tL : s.top ≤ L') (room : L' - s.top ≤ s.pl.length) (c0 : L' ≤ S.count + 1) (cb : -1 - (S.count + 1) ≤ s.b ∧ s.b ≤ S.count + 1 + 1)
    (htr : Tr 0 o S.pl.length (con S L) p a (con (S.upd 0 x0 s) L') p') : Did S L p 0 x0 o (S.upd 0 x0 s) := by
  have hl : x0.said.length < x0.ops.length := (List.getElem?_eq_some_iff.1 ho).1
  have hhs : (S.upd 0 x0 s).hs = ⟨x0.ops, s.said, s.at_, s.t, s.b, s.v, s.won⟩ :: th := by simp [Dq.upd, H.hs]
  refine ⟨L', p', _, th, ⟨x0.ops, s.said, s.at_, s.t, s.b, s.v, s.won⟩, a, ⟨hhs, hown, H.ops, fun x hx => hth x hx (H.thi x hx), H.tho, ?_, ?_, t0, tL, room, by show 0 < s.pl.length; rw [hpl]; exact H.r1, by show s.pl.length ≤ 256; rw [hpl]; exact H.r2, by show L' ≤ s.count; omega, ?_⟩, rfl, rfl, hsaid, hpl, hcount, hat, htr⟩
  · intro x hx
    rw [hhs] at hx
    rcases List.mem_cons.1 hx with rfl | hx
    · show s.said.length ≤ x0.ops.length
      rw [hsaid, List.length_append]
      have : a.toList.length ≤ 1 := by cases a <;> simp
      omega
    · exact H.len x (by rw [H.hs]; exact List.mem_cons_of_mem _ hx)
  · intro x hx
    rw [hhs] at hx
    rcases List.mem_cons.1 hx with rfl | hx
    · exact H.few x0 (by rw [H.hs]; simp)
    · exact H.few x (by rw [H.hs]; exact List.mem_cons_of_mem _ hx)
  · intro x hx
    rw [hhs] at hx
    show -1 - s.count ≤ x.b ∧ x.b ≤ s.count + 1
    rw [hcount]
    rcases List.mem_cons.1 hx with rfl | hx
    · exact cb
    · have := H.cb x (by rw [H.hs]; exact List.mem_cons_of_mem _ hx); omega

theorem toNat_one {n : Int} (h : n = 1) : n.toNat = 1 := by omega
theorem con_empty (h : L ≤ S.top) : con S L = [] := by
  unfold con; rw [show (L - S.top).toNat = 0 by omega]; rfl
theorem con_snoc (S : Dq) (L : Int) (h : S.top < L) : con S L = leftP S.pl S.top (L - 1 - S.top).toNat ++ [getP S.pl (L - 1)] := by
  unfold con
  rw [show (L - S.top).toNat = (L - 1 - S.top).toNat + 1 by omega, leftP_succ]
  rw [show S.top + ((L - 1 - S.top).toNat : Int) = L - 1 by omega]
theorem con_cons (S : Dq) (L : Int) (h : S.top < L) : con S L = getP S.pl S.top :: leftP S.pl (S.top + 1) (L - (S.top + 1)).toNat := by
  unfold con
  rw [show (L - S.top).toNat = (L - (S.top + 1)).toNat + 1 by omega, leftP_cons]

theorem own_step (H : Inv S L p x0 th) (ho : x0.ops[x0.said.length]? = some o) : Did S L p 0 x0 o (S.upd 0 x0 (stepH S 0 x0 o)) := by
  have hL := H.tL
  have hroom := H.room
  have ht0 := H.t0
  have hr1 := H.r1
  have hc0 := H.c0
  have hcb := H.cb x0 (by rw [H.hs]; simp)
  have hk := H.ops o (List.mem_of_getElem? ho)
  rcases H.own with ⟨ha, hb, hp⟩ | ⟨o', ho', hcase⟩
  · by_cases hk1 : o.1 = 1
    · by_cases hf : S.bottom - S.top = S.pl.length
      · have e : stepH S 0 x0 o = ⟨S.top, S.bottom, S.count + 1, S.pl, 0, x0.t, S.bottom, x0.v, x0.won, x0.said ++ [(false, 0)]⟩ := by simp [stepH, hk1, pushS, Dq.ss, ha, hf, SS.says]
        rw [e]
        refine own_did H ho _ (some (false, 0)) L p rfl rfl rfl (.inr ⟨rfl, rfl⟩) (.inl ⟨rfl, hb, hp⟩) ?_ ht0 hL hroom (by omega) (by dsimp only; omega) ?_
        · intro x hx h
          exact ⟨h.a0, h.a3, h.t0, h.tt, h.tl, h.tv, (fun _ hq => by have := hq.1; simp at this), h.op⟩
        · refine .inr (.inr (.inl ⟨rfl, hk1, hp, hp, .inr ⟨rfl, rfl, ?_⟩⟩))
          unfold con; rw [leftP_len]; omega
      · have e : stepH S 0 x0 o = ⟨S.top, S.bottom, S.count + 1, S.pl, 1, x0.t, S.bottom, x0.v, x0.won, x0.said⟩ := by simp [stepH, hk1, pushS, Dq.ss, ha, hf]
        rw [e]
        refine own_did H ho _ none L p rfl (by simp) rfl (.inl ⟨rfl, by rw [ha]; rfl, by dsimp only; omega⟩) (.inr ⟨o, ho, .inl ⟨hk1, rfl, hb, ?_, hp, .inl rfl⟩⟩) ?_ ht0 hL hroom (by omega) (by dsimp only; omega) (.inl ⟨rfl, rfl, rfl⟩)
        · show L - S.top < S.pl.length; omega
        · intro x hx h
          exact ⟨h.a0, h.a3, h.t0, h.tt, h.tl, h.tv, (fun _ hq => by have := hq.1; simp at this), h.op⟩
    · have e : stepH S 0 x0 o = ⟨S.top, S.bottom - 1, S.count + 1, S.pl, 1, x0.t, S.bottom, x0.v, x0.won, x0.said⟩ := by simp [stepH, hk1, popS, Dq.ss, ha]
      rw [e]
      refine own_did H ho _ none L p rfl (by simp) rfl (.inl ⟨rfl, by rw [ha]; rfl, by dsimp only; omega⟩) (.inr ⟨o, ho, .inr ⟨hk1, by show S.bottom = S.bottom - 1 + 1; omega, hb, .inl ⟨rfl, hp⟩⟩⟩) ?_ ht0 hL hroom (by omega) (by dsimp only; omega) (.inl ⟨rfl, rfl, rfl⟩)
      · intro x hx h
        exact ⟨h.a0, h.a3, h.t0, h.tt, h.tl, h.tv, (fun _ hq => by have := hq.1; simp at this), h.op⟩
  · obtain rfl : o' = o := by rw [ho] at ho'; exact (Option.some.inj ho').symm
    rcases hcase with ⟨hk1, hb, hLb, hlt, hp, hat⟩ | ⟨hk1, hb, hLb, hat⟩
    · rcases hat with ha | ⟨ha, hv⟩
      · have e : stepH S 0 x0 o' = ⟨S.top, S.bottom, S.count + 1, putP S.pl x0.b o'.2, 2, x0.t, x0.b, x0.v, x0.won, x0.said⟩ := by simp [stepH, hk1, pushS, Dq.ss, ha]
        rw [e]
        refine own_did H ho _ none L p rfl (by simp) (putP_len _ _ _) (.inl ⟨rfl, by rw [ha]; rfl, by dsimp only; omega⟩) (.inr ⟨o', ho, .inl ⟨hk1, hb, hLb, ?_, hp, .inr ⟨rfl, get_put_same _ _ hr1⟩⟩⟩) ?_ ht0 hL (by rw [putP_len]; exact hroom) (by omega) (by dsimp only; omega) (.inl ⟨rfl, ?_, rfl⟩)
        · show L - S.top < (putP S.pl x0.b o'.2).length; rw [putP_len]; exact hlt
        · intro x hx h
          refine ⟨h.a0, h.a3, h.t0, h.tt, h.tl, ?_, (fun _ hq => by obtain ⟨_, o2, h2, h3⟩ := hq; rw [show (⟨x0.ops, x0.said, 2, x0.t, x0.b, x0.v, x0.won⟩ : Hd).ops[(⟨x0.ops, x0.said, 2, x0.t, x0.b, x0.v, x0.won⟩ : Hd).said.length]? = some o' from ho] at h2; cases h2; exact absurd hk1 h3), h.op⟩
          intro h3 h4
          have h5 := h.tl (by omega) h4
          have h6 := h.tv h3 h4
          show x.v = getP (putP S.pl x0.b o'.2) x.t
          rw [h6, get_put _ h.t0 (by omega) (by have : x.t = S.top := h4; omega)]
        · show leftP (putP S.pl x0.b o'.2) S.top (L - S.top).toNat = leftP S.pl S.top (L - S.top).toNat
          exact leftP_put _ _ _ _ _ ht0 (by omega) (by omega)
      · have e : stepH S 0 x0 o' = ⟨S.top, x0.b + 1, S.count + 1, S.pl, 0, x0.t, x0.b, x0.v, x0.won, x0.said ++ [(true, o'.2)]⟩ := by simp [stepH, hk1, pushS, Dq.ss, ha, SS.says]
        rw [e]
        refine own_did H ho _ (some (true, o'.2)) (L + 1) [] rfl rfl rfl (.inr ⟨rfl, rfl⟩) (.inl ⟨rfl, by show L + 1 = x0.b + 1; omega, rfl⟩) ?_ ht0 (by dsimp only; omega) (by dsimp only; omega) (by omega) (by dsimp only; omega) ?_
        · intro x hx h
          exact ⟨h.a0, h.a3, h.t0, h.tt, (fun h1 h2 => by have := h.tl h1 h2; omega), h.tv, (fun _ hq => by have := hq.1; simp at this), h.op⟩
        · refine .inr (.inr (.inl ⟨rfl, hk1, hp, rfl, .inl ⟨rfl, ?_, ?_⟩⟩))
          · show con (S.upd 0 x0 _) (L + 1) = con S L ++ [o'.2]
            rw [con_snoc _ _ (by show S.top < L + 1; omega)]
            show leftP S.pl S.top (L + 1 - 1 - S.top).toNat ++ [getP S.pl (L + 1 - 1)] = _
            rw [show L + 1 - 1 = L by omega, ← hv]
            unfold con
            rw [hb, hLb]
          · unfold con; rw [leftP_len]; omega
    · rcases hat with ⟨ha, hp⟩ | ⟨ha, hp, hx0, hxt, hxb⟩ | ⟨ha, htop, hb0, hp⟩
      · have e : stepH S 0 x0 o' = ⟨S.top, S.bottom, S.count + 1, S.pl, 2, S.top, x0.b, x0.v, x0.won, x0.said⟩ := by simp [stepH, hk1, popS, Dq.ss, ha]
        rw [e]
        refine own_did H ho _ none L p rfl (by simp) rfl (.inl ⟨rfl, by rw [ha]; rfl, by dsimp only; omega⟩) (.inr ⟨o', ho, .inr ⟨hk1, hb, hLb, .inr (.inl ⟨rfl, hp, ht0, Int.le_refl _, ?_⟩)⟩⟩) ?_ ht0 hL hroom (by omega) (by dsimp only; omega) (.inl ⟨rfl, rfl, rfl⟩)
        · show S.top ≤ S.bottom ∨ S.bottom ≤ S.top; omega
        · intro x hx h
          exact ⟨h.a0, h.a3, h.t0, h.tt, h.tl, h.tv, (fun h2 _ => .inr (h.tt (by omega))), h.op⟩
      · by_cases h1 : x0.b - 1 < x0.t
        · have e : stepH S 0 x0 o' = ⟨S.top, x0.b, S.count + 1, S.pl, 0, x0.t, x0.b, x0.v, x0.won, x0.said ++ [(false, 0)]⟩ := by simp [stepH, hk1, popS, Dq.ss, ha, h1, SS.says]
          rw [e]
          refine own_did H ho _ (some (false, 0)) L p rfl rfl rfl (.inr ⟨rfl, rfl⟩) (.inl ⟨rfl, hLb, hp⟩) ?_ ht0 hL hroom (by omega) (by dsimp only; omega) ?_
          · intro x hx h
            exact ⟨h.a0, h.a3, h.t0, h.tt, h.tl, h.tv, (fun _ hq => by have := hq.1; simp at this), h.op⟩
          · refine .inr (.inr (.inr (.inl ⟨rfl, hk1, hp, .inl ⟨rfl, con_empty (by omega), con_empty (by show L ≤ S.top; omega), hp⟩⟩)))
        · by_cases h2 : x0.t < x0.b - 1
          · have e : stepH S 0 x0 o' = ⟨S.top, S.bottom, S.count + 1, S.pl, 0, x0.t, x0.b, x0.v, x0.won, x0.said ++ [(true, getP S.pl (x0.b - 1))]⟩ := by simp [stepH, hk1, popS, Dq.ss, ha, h1, h2, SS.says]
            rw [e]
            refine own_did H ho _ (some (true, getP S.pl (x0.b - 1))) S.bottom [] rfl rfl rfl (.inr ⟨rfl, rfl⟩) (.inl ⟨rfl, rfl, rfl⟩) ?_ ht0 (by dsimp only; omega) (by dsimp only; omega) (by omega) (by dsimp only; omega) ?_
            · intro x hx h
              refine ⟨h.a0, h.a3, h.t0, h.tt, ?_, h.tv, (fun _ hq => by have := hq.1; simp at this), h.op⟩
              intro h3 h4
              have h5 := h.tp h3 ⟨ha, o', ho, hk1⟩
              have h6 : x.t = S.top := h4
              omega
            · refine .inr (.inr (.inr (.inl ⟨rfl, hk1, rfl, .inr (.inl ⟨_, rfl, hp, ?_⟩)⟩)))
              rw [con_snoc _ _ (by omega), show L - 1 = S.bottom by omega, show x0.b - 1 = S.bottom by omega]
              rfl
          · by_cases h3 : S.top = x0.t
            · have e : stepH S 0 x0 o' = ⟨S.top + 1, S.bottom, S.count + 1, S.pl, 3, x0.t, x0.b, x0.v, true, x0.said⟩ := by simp [stepH, hk1, popS, Dq.ss, ha, h1, h2, h3]
              rw [e]
              refine own_did H ho _ none L [getP S.pl S.bottom] rfl (by simp) rfl (.inl ⟨rfl, by rw [ha]; rfl, by dsimp only; omega⟩) (.inr ⟨o', ho, .inr ⟨hk1, hb, hLb, .inr (.inr ⟨rfl, by show S.top + 1 = L; omega, by show 0 ≤ S.bottom; omega, rfl⟩)⟩⟩) ?_ (by dsimp only; omega) (by dsimp only; omega) (by dsimp only; omega) (by omega) (by dsimp only; omega) ?_
              · intro x hx h
                refine ⟨h.a0, h.a3, h.t0, (fun h4 => by have := h.tt h4; show x.t ≤ S.top + 1; omega), (fun h4 h5 => ?_), (fun h4 h5 => ?_), (fun _ hq => by have := hq.1; simp at this), h.op⟩
                · have := h.tt (by omega); have h5 : x.t = S.top + 1 := h5; omega
                · have := h.tt (by omega); have h5 : x.t = S.top + 1 := h5; omega
              · refine .inr (.inl ⟨rfl, rfl, getP S.pl S.bottom, ?_, con_empty (by show L ≤ S.top + 1; omega), hp, rfl⟩)
                rw [con_cons _ _ (by omega), show (L - (S.top + 1)).toNat = 0 by omega, show S.top = S.bottom by omega]
                rfl
            · have e : stepH S 0 x0 o' = ⟨S.top, S.bottom, S.count + 1, S.pl, 3, x0.t, x0.b, x0.v, false, x0.said⟩ := by simp [stepH, hk1, popS, Dq.ss, ha, h1, h2, h3]
              rw [e]
              refine own_did H ho _ none L p rfl (by simp) rfl (.inl ⟨rfl, by rw [ha]; rfl, by dsimp only; omega⟩) (.inr ⟨o', ho, .inr ⟨hk1, hb, hLb, .inr (.inr ⟨rfl, by show S.top = L; omega, by show 0 ≤ S.bottom; omega, by rw [hp]; rfl⟩)⟩⟩) ?_ ht0 hL hroom (by omega) (by dsimp only; omega) (.inl ⟨rfl, rfl, rfl⟩)
              · intro x hx h
                exact ⟨h.a0, h.a3, h.t0, h.tt, h.tl, h.tv, (fun _ hq => by have := hq.1; simp at this), h.op⟩
      · have e : stepH S 0 x0 o' = ⟨S.top, x0.b, S.count + 1, S.pl, 0, x0.t, x0.b, x0.v, x0.won, x0.said ++ [(x0.won, if x0.won then getP S.pl (x0.b - 1) else 0)]⟩ := by simp [stepH, hk1, popS, Dq.ss, ha, SS.says]
        rw [e]
        refine own_did H ho _ (some (x0.won, if x0.won then getP S.pl (x0.b - 1) else 0)) L [] rfl rfl rfl (.inr ⟨rfl, rfl⟩) (.inl ⟨rfl, hLb, rfl⟩) ?_ ht0 hL hroom (by omega) (by dsimp only; omega) ?_
        · intro x hx h
          exact ⟨h.a0, h.a3, h.t0, h.tt, h.tl, h.tv, (fun _ hq => by have := hq.1; simp at this), h.op⟩
        · have c1 := con_empty (S := S) (L := L) (by omega)
          have c2 : con (S.upd 0 x0 ⟨S.top, x0.b, S.count + 1, S.pl, 0, x0.t, x0.b, x0.v, x0.won, x0.said ++ [(x0.won, if x0.won then getP S.pl (x0.b - 1) else 0)]⟩) L = [] := con_empty (by show L ≤ S.top; omega)
          rw [show x0.b - 1 = S.bottom by omega] at c2 ⊢
          cases hw : x0.won with
          | true =>
            rw [hw] at hp c2
            exact .inr (.inr (.inr (.inl ⟨rfl, hk1, rfl, .inr (.inr ⟨_, rfl, hp, c1, c2⟩)⟩)))
          | false =>
            rw [hw] at hp c2
            exact .inr (.inr (.inr (.inl ⟨rfl, hk1, rfl, .inl ⟨rfl, c1, c2, hp⟩⟩)))

/-- An access of a thief: what is to be shown of it. -/
theorem th_did (H : Inv S L p x0 th) (k : Nat) (x : Hd) (hx : th[k]? = some x) (hl : x.said.length < x.ops.length) (s : SS) (a : Option (Bool × Int))
    (hcount : s.count = S.count + 1) (hsaid : s.said = x.said ++ a.toList) (hpl : s.pl = S.pl) (hbot : s.bottom = S.bottom) (hb : s.b = x.b)
    (hat : (a = none ∧ s.at_ = x.at_ + 1 ∧ s.at_ ≤ 3) ∨ (a.isSome ∧ s.at_ = 0))
    (hown : OwnI (S.upd (k + 1) x s) x0 L p)
    (hth : ∀ y ∈ th, ThI S x0 L y → ThI (S.upd (k + 1) x s) x0 L y)
    (hme : ThI (S.upd (k + 1) x s) x0 L ⟨x.ops, s.said, s.at_, s.t, s.b, s.v, s.won⟩)
    (t0 : 0 ≤ s.top) (tL : s.top ≤ L) (tS : S.top ≤ s.top)
    (htr : Tr (k + 1) o S.pl.length (con S L) p a (con (S.upd (k + 1) x s) L) p) : Did S L p (k + 1) x o (S.upd (k + 1) x s) := by
  have hxm : x ∈ th := List.mem_of_getElem? hx
  have hhs : (S.upd (k + 1) x s).hs = x0 :: th.set k ⟨x.ops, s.said, s.at_, s.t, s.b, s.v, s.won⟩ := by simp [Dq.upd, H.hs]
  have hmem : ∀ y ∈ th, y ∈ S.hs := fun y hy => by rw [H.hs]; exact List.mem_cons_of_mem _ hy
  have hall : ∀ y ∈ th.set k ⟨x.ops, s.said, s.at_, s.t, s.b, s.v, s.won⟩, y ∈ th ∨ y = ⟨x.ops, s.said, s.at_, s.t, s.b, s.v, s.won⟩ := fun y hy => List.mem_or_eq_of_mem_set hy
  have hroom := H.room
  have hc0 := H.c0
  refine ⟨L, p, x0, _, ⟨x.ops, s.said, s.at_, s.t, s.b, s.v, s.won⟩, a, ⟨hhs, hown, H.ops, ?_, ?_, ?_, ?_, t0, tL, ?_, by show 0 < s.pl.length; rw [hpl]; exact H.r1, by show s.pl.length ≤ 256; rw [hpl]; exact H.r2, by show L ≤ s.count; omega, ?_⟩, rfl, rfl, hsaid, by show s.pl.length = S.pl.length; rw [hpl], hcount, hat, htr⟩
  · intro y hy
    rcases hall y hy with hy | rfl
    · exact hth y hy (H.thi y hy)
    · exact hme
  · intro y hy
    rcases hall y hy with hy | rfl
    · exact H.tho y hy
    · exact H.tho x hxm
  · intro y hy
    rw [hhs] at hy
    rcases List.mem_cons.1 hy with rfl | hy
    · exact H.len y (by rw [H.hs]; simp)
    · rcases hall y hy with hy | rfl
      · exact H.len y (hmem y hy)
      · show s.said.length ≤ x.ops.length
        rw [hsaid, List.length_append]
        have : a.toList.length ≤ 1 := by cases a <;> simp
        omega
  · intro y hy
    rw [hhs] at hy
    rcases List.mem_cons.1 hy with rfl | hy
    · exact H.few y (by rw [H.hs]; simp)
    · rcases hall y hy with hy | rfl
      · exact H.few y (hmem y hy)
      · exact H.few x (hmem x hxm)
  · show L - s.top ≤ s.pl.length; rw [hpl]; omega
  · intro y hy
    rw [hhs] at hy
    show -1 - s.count ≤ y.b ∧ y.b ≤ s.count + 1
    rw [hcount]
    rcases List.mem_cons.1 hy with rfl | hy
    · have := H.cb y (by rw [H.hs]; simp); omega
    · rcases hall y hy with hy | rfl
      · have := H.cb y (hmem y hy); omega
      · have := H.cb x (hmem x hxm)
        show -1 - (S.count + 1) ≤ s.b ∧ s.b ≤ S.count + 1 + 1
        omega

theorem th_step (H : Inv S L p x0 th) (k : Nat) (x : Hd) (hx : th[k]? = some x) (ho : x.ops[x.said.length]? = some o) : Did S L p (k + 1) x o (S.upd (k + 1) x (stepH S (k + 1) x o)) := by
  have hL := H.tL
  have hroom := H.room
  have ht0 := H.t0
  have hxm : x ∈ th := List.mem_of_getElem? hx
  have hk := H.tho x hxm o (List.mem_of_getElem? ho)
  have hl : x.said.length < x.ops.length := (List.getElem?_eq_some_iff.1 ho).1
  have hI := H.thi x hxm
  have e0 : stepH S (k + 1) x o = stealS { S.ss x with at_ := x.at_ + 1 } := by simp [stepH, hk]
  have hq : x.at_ = 0 ∨ x.at_ = 1 ∨ x.at_ = 2 ∨ x.at_ = 3 := by have := hI.a0; have := hI.a3; omega
  rcases hq with ha | ha | ha | ha
  · have e : stepH S (k + 1) x o = ⟨S.top, S.bottom, S.count + 1, S.pl, 1, S.top, x.b, x.v, x.won, x.said⟩ := by rw [e0]; simp [stealS, Dq.ss, ha]
    rw [e]
    refine th_did H k x hx hl _ none rfl (by simp) rfl rfl rfl (.inl ⟨rfl, by rw [ha]; rfl, by dsimp only; omega⟩) H.own (fun y _ h => ⟨h.a0, h.a3, h.t0, h.tt, h.tl, h.tv, h.tp, h.op⟩) ?_ ht0 hL (Int.le_refl _) (.inl ⟨rfl, rfl, rfl⟩)
    refine ⟨?_, ?_, ht0, fun _ => Int.le_refl _, ?_, ?_, ?_, fun _ => hl⟩ <;> dsimp only <;> omega
  · by_cases h1 : S.bottom ≤ x.t
    · have e : stepH S (k + 1) x o = ⟨S.top, S.bottom, S.count + 1, S.pl, 0, x.t, x.b, x.v, x.won, x.said ++ [(false, 0)]⟩ := by rw [e0]; simp [stealS, Dq.ss, ha, h1, SS.says]
      rw [e]
      refine th_did H k x hx hl _ (some (false, 0)) rfl rfl rfl rfl rfl (.inr ⟨rfl, rfl⟩) H.own (fun y _ h => ⟨h.a0, h.a3, h.t0, h.tt, h.tl, h.tv, h.tp, h.op⟩) ?_ ht0 hL (Int.le_refl _) (.inr (.inr (.inr (.inr ⟨by omega, rfl, .inl ⟨rfl, rfl⟩⟩))))
      exact ⟨by dsimp only; omega, by dsimp only; omega, hI.t0, by dsimp only; omega, by dsimp only; omega, by dsimp only; omega, by dsimp only; omega, fun h => absurd rfl h⟩
    · have e : stepH S (k + 1) x o = ⟨S.top, S.bottom, S.count + 1, S.pl, 2, x.t, x.b, x.v, x.won, x.said⟩ := by rw [e0]; simp [stealS, Dq.ss, ha, h1]
      rw [e]
      refine th_did H k x hx hl _ none rfl (by simp) rfl rfl rfl (.inl ⟨rfl, by rw [ha]; rfl, by dsimp only; omega⟩) H.own (fun y _ h => ⟨h.a0, h.a3, h.t0, h.tt, h.tl, h.tv, h.tp, h.op⟩) ?_ ht0 hL (Int.le_refl _) (.inl ⟨rfl, rfl, rfl⟩)
      have hbl : S.bottom ≤ L := by
        rcases H.own with ⟨_, h, _⟩ | ⟨_, _, ⟨_, _, h, _⟩ | ⟨_, h, h', _⟩⟩ <;> omega
      refine ⟨by dsimp only; omega, by dsimp only; omega, hI.t0, fun _ => hI.tt (by omega), fun _ _ => by dsimp only; omega, fun h => ?_, fun _ _ => .inl (by show x.t < S.bottom; omega), fun _ => hl⟩
      exact absurd h (by dsimp only; omega)
  · have e : stepH S (k + 1) x o = ⟨S.top, S.bottom, S.count + 1, S.pl, 3, x.t, x.b, getP S.pl x.t, x.won, x.said⟩ := by rw [e0]; simp [stealS, Dq.ss, ha]
    rw [e]
    refine th_did H k x hx hl _ none rfl (by simp) rfl rfl rfl (.inl ⟨rfl, by rw [ha]; rfl, by dsimp only; omega⟩) H.own (fun y _ h => ⟨h.a0, h.a3, h.t0, h.tt, h.tl, h.tv, h.tp, h.op⟩) ?_ ht0 hL (Int.le_refl _) (.inl ⟨rfl, rfl, rfl⟩)
    exact ⟨by dsimp only; omega, by dsimp only; omega, hI.t0, fun _ => hI.tt (by omega), fun _ => hI.tl (by omega), fun _ _ => rfl, fun _ => hI.tp (by omega), fun _ => hl⟩
  · by_cases h1 : S.top = x.t
    · have e : stepH S (k + 1) x o = ⟨S.top + 1, S.bottom, S.count + 1, S.pl, 0, x.t, x.b, x.v, x.won, x.said ++ [(true, x.v)]⟩ := by rw [e0]; simp [stealS, Dq.ss, ha, h1, SS.says]
      rw [e]
      have h2 := hI.tl (by omega) h1.symm
      have h3 := hI.tv ha h1.symm
      refine th_did H k x hx hl _ (some (true, x.v)) rfl rfl rfl rfl rfl (.inr ⟨rfl, rfl⟩) ?_ ?_ ?_ (by dsimp only; omega) (by dsimp only; omega) (by dsimp only; omega) (.inr (.inr (.inr (.inr ⟨by omega, rfl, .inr ⟨x.v, rfl, ?_⟩⟩))))
      · rcases H.own with h | ⟨o', ho', ⟨k1, k2, k3, k4, k5, k6⟩ | ⟨k1, k2, k3, k4⟩⟩
        · exact .inl h
        · exact .inr ⟨o', ho', .inl ⟨k1, k2, k3, by show L - (S.top + 1) < S.pl.length; omega, k5, k6⟩⟩
        · refine .inr ⟨o', ho', .inr ⟨k1, k2, k3, ?_⟩⟩
          rcases k4 with k4 | ⟨j1, j2, j3, j4, j5⟩ | ⟨j1, j2, j3, j4⟩
          · exact .inl k4
          · refine .inr (.inl ⟨j1, j2, j3, by show x0.t ≤ S.top + 1; omega, ?_⟩)
            have h4 := hI.tp (by omega) ⟨j1, o', ho', k1⟩
            show S.top + 1 ≤ S.bottom ∨ S.bottom ≤ x0.t
            omega
          · omega
      · intro y _ h
        refine ⟨h.a0, h.a3, h.t0, (fun h4 => by have := h.tt h4; show y.t ≤ S.top + 1; omega), (fun h4 h5 => ?_), (fun h4 h5 => ?_), h.tp, h.op⟩
        · have := h.tt (by omega); have h5 : y.t = S.top + 1 := h5; omega
        · have := h.tt (by omega); have h5 : y.t = S.top + 1 := h5; omega
      · exact ⟨by dsimp only; omega, by dsimp only; omega, hI.t0, by dsimp only; omega, by dsimp only; omega, by dsimp only; omega, by dsimp only; omega, fun h => absurd rfl h⟩
      · rw [con_cons _ _ (by omega), h3, h1]
        rfl
    · have e : stepH S (k + 1) x o = ⟨S.top, S.bottom, S.count + 1, S.pl, 0, x.t, x.b, x.v, x.won, x.said ++ [(false, 0)]⟩ := by rw [e0]; simp [stealS, Dq.ss, ha, h1, SS.says]
      rw [e]
      refine th_did H k x hx hl _ (some (false, 0)) rfl rfl rfl rfl rfl (.inr ⟨rfl, rfl⟩) H.own (fun y _ h => ⟨h.a0, h.a3, h.t0, h.tt, h.tl, h.tv, h.tp, h.op⟩) ?_ ht0 hL (Int.le_refl _) (.inr (.inr (.inr (.inr ⟨by omega, rfl, .inl ⟨rfl, rfl⟩⟩))))
      exact ⟨by dsimp only; omega, by dsimp only; omega, hI.t0, by dsimp only; omega, by dsimp only; omega, by dsimp only; omega, by dsimp only; omega, fun h => absurd rfl h⟩

/-- An access of any worker that is not done. -/
theorem any_step (H : Inv S L p x0 th) (i : Nat) (x : Hd) (hx : S.hs[i]? = some x) (ho : x.ops[x.said.length]? = some o) : Did S L p i x o (S.step i) := by
  have e : S.step i = S.upd i x (stepH S i x o) := by simp [Dq.step, hx, ho]
  rw [e]
  rw [H.hs] at hx
  cases i with
  | zero => cases hx; exact own_step H ho
  | succ k => exact th_step H k x hx ho
/-- The access may be done. -/
theorem any_ok (H : Inv S L p x0 th) (hc : S.count ≤ 1000000) (i : Nat) (x : Hd) (hx : S.hs[i]? = some x) (ho : x.ops[x.said.length]? = some o) : okH S i x o ∧ 0 ≤ x.at_ ∧ x.at_ ≤ 3 := by
  have hL := H.tL
  have hroom := H.room
  have ht0 := H.t0
  have hr1 := H.r1
  have hr2 := H.r2
  have hc0 := H.c0
  have hxm := List.mem_of_getElem? hx
  have hcb := H.cb x hxm
  have hlen := H.len x hxm
  have hfew := H.few x hxm
  have hbl : L - 1 ≤ S.bottom ∧ S.bottom ≤ L := by
    rcases H.own with ⟨_, h, _⟩ | ⟨_, _, ⟨_, _, h, _⟩ | ⟨_, h, h', _⟩⟩ <;> omega
  have hfit : Fit { S.ss x with at_ := x.at_ + 1 } := ⟨by simp only [Dq.ss]; omega, by simp only [Dq.ss]; omega, by simp only [Dq.ss]; omega, by simp only [Dq.ss]; omega, hr1, hr2, by simp only [Dq.ss]; omega⟩
  rw [H.hs] at hx
  cases i with
  | zero =>
    cases hx
    have hk := H.ops o (List.mem_of_getElem? ho)
    rcases H.own with ⟨ha, hb, hp⟩ | ⟨o', ho', hcase⟩
    · refine ⟨⟨hfit, ?_⟩, by omega, by omega⟩
      split
      · exact .inl (by simp only [ha]; rfl)
      · rw [if_pos (.inl rfl)]
        exact .inl (by simp only [ha]; rfl)
    · obtain rfl : o' = o := by rw [ho] at ho'; exact (Option.some.inj ho').symm
      rcases hcase with ⟨hk1, hb, hLb, hlt, hp, hat⟩ | ⟨hk1, hb, hLb, hat⟩
      · refine ⟨⟨hfit, ?_⟩, by omega, by omega⟩
        rw [if_pos hk1]
        rcases hat with ha | ⟨ha, _⟩
        · exact .inr (.inl ⟨by simp only [ha]; rfl, by show 0 ≤ x0.b; omega⟩)
        · exact .inr (.inr (by simp only [ha]; rfl))
      · refine ⟨⟨hfit, ?_⟩, by omega, by omega⟩
        rw [if_neg hk1, if_pos (.inl rfl)]
        rcases hat with ⟨ha, hp⟩ | ⟨ha, hp, hx0, hxt, hxb⟩ | ⟨ha, htop, hb0, hp⟩
        · exact .inr (.inl (by simp only [ha]; rfl))
        · exact .inr (.inr (.inl ⟨by simp only [ha]; rfl, fun h => by have h : x0.t < x0.b - 1 := h; show 0 ≤ x0.b - 1; omega⟩))
        · exact .inr (.inr (.inr ⟨by simp only [ha]; rfl, by show 0 ≤ x0.b - 1; omega⟩))
  | succ k =>
    have hxm : x ∈ th := List.mem_of_getElem? hx
    have hk := H.tho x hxm o (List.mem_of_getElem? ho)
    have hI := H.thi x hxm
    have h0 := hI.a0
    have h3 := hI.a3
    refine ⟨⟨hfit, ?_⟩, h0, h3⟩
    rw [if_neg (by omega), if_neg (by omega)]
    have hq : x.at_ = 0 ∨ x.at_ = 1 ∨ x.at_ = 2 ∨ x.at_ = 3 := by omega
    rcases hq with ha | ha | ha | ha
    · exact .inl (by simp only [ha]; rfl)
    · exact .inr (.inl (by simp only [ha]; rfl))
    · exact .inr (.inr (.inl ⟨by simp only [ha]; rfl, hI.t0⟩))
    · exact .inr (.inr (.inr (by simp only [ha]; rfl)))
end Go.Proofs.Ytpgdpddmgljpmaa
