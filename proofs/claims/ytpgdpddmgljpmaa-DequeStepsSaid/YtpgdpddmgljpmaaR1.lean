/-
  The document's deque as a plain machine, and that it goes as the deque does.
-/
import Derived.Test.YtpgdpddmgljpmaaD17
namespace Go.Proofs.Ytpgdpddmgljpmaa

/-- The document's place of a number. -/
def slotR (n : Nat) (k : Int) : Nat := ((k.tmod n + n).tmod n).toNat
theorem slotR_pos {n : Nat} {k : Int} (hn : 0 < n) (hk : 0 ≤ k) : slotR n k = k.toNat % n := by
  obtain ⟨m, rfl⟩ : ∃ m : Nat, k = m := ⟨k.toNat, by omega⟩
  unfold slotR
  have h1 : (m : Int).tmod (n : Int) = ((m % n : Nat) : Int) := rfl
  rw [h1, ← Int.natCast_add]
  have h2 : ((m % n + n : Nat) : Int).tmod (n : Int) = (((m % n + n) % n : Nat) : Int) := rfl
  rw [h2, Int.toNat_natCast, Int.toNat_natCast, Nat.add_mod_right, Nat.mod_mod]
theorem slotR_lt {n : Nat} {k : Int} (hn : 0 < n) (hk : -1 ≤ k) : slotR n k < n := by
  by_cases h : 0 ≤ k
  · rw [slotR_pos hn h]; exact Nat.mod_lt _ hn
  · obtain rfl : k = -1 := by omega
    unfold slotR
    have h0 : -(n : Int) < (-1 : Int).tmod n := Int.lt_tmod_of_pos _ (by omega)
    have h3 := Int.tmod_lt_of_pos ((-1 : Int).tmod n + n) (show (0 : Int) < n by omega)
    have h4 := Int.tmod_nonneg (a := (-1 : Int).tmod n + n) (n : Int) (by omega)
    omega
def getR (pl : List Int) (k : Int) : Int := pl.getD (slotR pl.length k) 0
theorem getR_pos {pl : List Int} {k : Int} (hn : 0 < pl.length) (hk : 0 ≤ k) : getR pl k = getP pl k := by
  unfold getR getP slot
  rw [slotR_pos hn hk]

def rend (s : SS) (ok : Bool) (v : Int) : SS := { s with said := s.said ++ [(ok, if ok then v else 0)], at_ := 0, t := 0, b := 0, v := 0, won := false }
def rpushS (s : SS) (v : Int) : SS :=
  if s.at_ = 1 then (if s.bottom - s.top = s.pl.length then rend { s with b := s.bottom } false 0 else { s with b := s.bottom })
  else if s.at_ = 2 then { s with pl := putP s.pl s.b v } else rend { s with bottom := s.b + 1 } true v
def rpopS (s : SS) : SS :=
  if s.at_ = 1 then { s with b := s.bottom, bottom := s.bottom - 1 }
  else if s.at_ = 2 then { s with t := s.top }
  else if s.at_ = 3 then
    if s.b - 1 < s.t then rend { s with bottom := s.b } false 0
    else if s.t < s.b - 1 then rend s true (getR s.pl (s.b - 1))
    else if s.top = s.t then { s with v := getR s.pl (s.b - 1), top := s.top + 1, won := true } else { s with v := getR s.pl (s.b - 1) }
  else rend { s with bottom := s.b } s.won s.v
def rstealS (s : SS) : SS :=
  if s.at_ = 1 then { s with t := s.top }
  else if s.at_ = 2 then (if s.bottom ≤ s.t then rend s false 0 else s)
  else if s.at_ = 3 then { s with v := getR s.pl s.t }
  else rend { s with top := if s.top = s.t then s.top + 1 else s.top } (decide (s.top = s.t)) s.v
def rstepH (R : Dq) (x : Hd) (o : Int × Int) : SS :=
  let s : SS := { R.ss x with at_ := x.at_ + 1, count := R.count + 1 }
  if o.1 = 1 then rpushS s o.2 else if o.1 = 2 then rpopS s else rstealS s
def Dq.rstep (R : Dq) (i : Nat) : Dq :=
  match R.hs[i]? with
  | none => R
  | some x => match x.ops[x.said.length]? with
    | none => R
    | some o => R.upd i x (rstepH R x o)

/-- A hand of the document's is as the deque's. -/
structure HRel (pl : List Int) (x y : Hd) : Prop where
  ops : y.ops = x.ops
  said : y.said = x.said
  at_ : y.at_ = x.at_
  zero : x.at_ = 0 → y.t = 0 ∧ y.b = 0 ∧ y.v = 0 ∧ y.won = false
  push : ∀ o, x.ops[x.said.length]? = some o → x.at_ ≠ 0 → o.1 = 1 → y.b = x.b
  pop : ∀ o, x.ops[x.said.length]? = some o → x.at_ ≠ 0 → o.1 = 2 → y.b = x.b ∧ (x.at_ ≤ 2 → y.won = false) ∧ (2 ≤ x.at_ → y.t = x.t) ∧ (x.at_ = 3 → y.won = x.won ∧ y.v = getP pl (x.b - 1))
  steal : ∀ o, x.ops[x.said.length]? = some o → x.at_ ≠ 0 → o.1 = 3 → y.t = x.t ∧ (x.at_ = 3 → y.v = x.v)
  b0 : y.b = x.b ∨ y.b = 0
structure Sim (S R : Dq) : Prop where
  top : R.top = S.top
  bottom : R.bottom = S.bottom
  count : R.count = S.count
  pl : R.pl = S.pl
  len : R.hs.length = S.hs.length
  hs : ∀ (i : Nat) (x y : Hd), S.hs[i]? = some x → R.hs[i]? = some y → HRel S.pl x y
variable {S R : Dq}

/-- One worker's access on both sides. -/
theorem sim_own {x y : Hd} {o : Int × Int} (H : Sim S R) {L : Int} {p : List Int} {x0 : Hd} {th : List Hd} (HI : Inv S L p x0 th) (i : Nat) (hx : S.hs[i]? = some x) (hy : R.hs[i]? = some y) (ho : x.ops[x.said.length]? = some o) :
    let s := stepH S i x o
    let s' := rstepH R y o
    s'.top = s.top ∧ s'.bottom = s.bottom ∧ s'.count = s.count ∧ s'.pl = s.pl ∧ HRel s.pl ⟨x.ops, s.said, s.at_, s.t, s.b, s.v, s.won⟩ ⟨y.ops, s'.said, s'.at_, s'.t, s'.b, s'.v, s'.won⟩ ∧ (i ≠ 0 → s.pl = S.pl) := by
  have hr := H.hs i x y hx hy
  obtain ⟨h1, h2, h3, h4, h5, h6, h7, h8⟩ := hr
  have p5 := h5 o ho
  have p6 := h6 o ho
  have p7 := h7 o ho
  have ht := H.top
  have hb := H.bottom
  have hc := H.count
  have hp := H.pl
  have hr1 := HI.r1
  dsimp only
  -- which kind of worker
  have hcase : (i = 0 ∧ x = x0) ∨ (∃ k, i = k + 1 ∧ th[k]? = some x) := by
    rw [HI.hs] at hx
    cases i with
    | zero => simp at hx; exact .inl ⟨rfl, hx.symm⟩
    | succ k => exact .inr ⟨k, rfl, by simpa using hx⟩
  obtain ⟨xo, xs, xa, xt, xb, xv, xw⟩ := x
  obtain ⟨yo, ys, ya, yt, yb, yv, yw⟩ := y
  dsimp only at h1 h2 h3 h4 h8 p5 p6 p7 ho
  subst h1 h2 h3
  rcases hcase with ⟨rfl, hx0⟩ | ⟨k, rfl, hxk⟩
  · subst hx0
    have hk := HI.ops o (List.mem_of_getElem? ho)
    rcases HI.own with ⟨ha, hbb, hpp⟩ | ⟨o', ho', hcs⟩
    · dsimp only at ha
      subst ha
      obtain ⟨z1, z2, z3, z4⟩ := h4 rfl
      subst z1 z2 z3 z4
      rcases hk with hk | hk
      · by_cases hf : S.bottom - S.top = S.pl.length
        · simp [stepH, rstepH, hk, pushS, rpushS, Dq.ss, ht, hb, hc, hp, hf, SS.says, rend]
          exact ⟨rfl, rfl, rfl, fun _ => ⟨rfl, rfl, rfl, rfl⟩, fun _ _ h => absurd rfl h, fun _ _ h => absurd rfl h, fun _ _ h => absurd rfl h, by first | exact .inl rfl | exact .inr rfl | exact h8⟩
        · simp [stepH, rstepH, hk, pushS, rpushS, Dq.ss, ht, hb, hc, hp, hf]
          exact ⟨rfl, rfl, rfl, fun h => by simp at h, fun _ _ _ _ => rfl, fun q hq _ hq2 => absurd hq2 (by have e := Option.some.inj (hq.symm.trans ho); rw [e]; omega), fun q hq _ hq2 => absurd hq2 (by have e := Option.some.inj (hq.symm.trans ho); rw [e]; omega), by first | exact .inl rfl | exact .inr rfl | exact h8⟩
      · have hk1 : ¬ o.1 = 1 := by omega
        simp [stepH, rstepH, hk, popS, rpopS, Dq.ss, ht, hb, hc, hp]
        exact ⟨rfl, rfl, rfl, fun h => by simp at h, fun q hq _ hq2 => absurd hq2 (by have e := Option.some.inj (hq.symm.trans ho); rw [e]; omega), fun _ _ _ _ => ⟨rfl, fun _ => rfl, fun h => by simp at h, fun h => by simp at h⟩, fun q hq _ hq2 => absurd hq2 (by have e := Option.some.inj (hq.symm.trans ho); rw [e]; omega), by first | exact .inl rfl | exact .inr rfl | exact h8⟩
    · dsimp only at ho'
      obtain rfl : o' = o := by rw [ho] at ho'; exact (Option.some.inj ho').symm
      rcases hcs with ⟨hk1, hxb, hLb, hlt, hpp, hat⟩ | ⟨hk1, hxb, hLb, hat⟩
      · dsimp only at hxb hat
        rcases hat with ha | ⟨ha, hv⟩
        · subst ha
          have q1 := p5 (by decide) hk1
          subst q1
          simp [stepH, rstepH, hk1, pushS, rpushS, Dq.ss, ht, hb, hc, hp]
          exact ⟨rfl, rfl, rfl, fun h => by simp at h, fun _ _ _ _ => rfl, fun q hq _ hq2 => absurd hq2 (by have e := Option.some.inj (hq.symm.trans ho); rw [e]; omega), fun q hq _ hq2 => absurd hq2 (by have e := Option.some.inj (hq.symm.trans ho); rw [e]; omega), by first | exact .inl rfl | exact .inr rfl | exact h8⟩
        · subst ha
          have q1 := p5 (by decide) hk1
          subst q1
          simp [stepH, rstepH, hk1, pushS, rpushS, Dq.ss, ht, hb, hc, hp, SS.says, rend]
          exact ⟨rfl, rfl, rfl, fun _ => ⟨rfl, rfl, rfl, rfl⟩, fun _ _ h => absurd rfl h, fun _ _ h => absurd rfl h, fun _ _ h => absurd rfl h, by first | exact .inl rfl | exact .inr rfl | exact h8⟩
      · have hk2 : o'.1 = 2 := by omega
        dsimp only at hxb hat hLb
        rcases hat with ⟨ha, hpp⟩ | ⟨ha, hpp, hx0, hxt, hxb2⟩ | ⟨ha, htop, hb0, hpp⟩
        · subst ha
          obtain ⟨q1, q2, q3, q4⟩ := p6 (by decide) hk2
          have q2 := q2 (by decide)
          subst q1 q2
          simp [stepH, rstepH, hk2, popS, rpopS, Dq.ss, ht, hb, hc, hp]
          exact ⟨rfl, rfl, rfl, fun h => by simp at h, fun q hq _ hq2 => absurd hq2 (by have e := Option.some.inj (hq.symm.trans ho); rw [e]; omega), fun _ _ _ _ => ⟨rfl, fun _ => rfl, fun _ => rfl, fun h => by simp at h⟩, fun q hq _ hq2 => absurd hq2 (by have e := Option.some.inj (hq.symm.trans ho); rw [e]; omega), by first | exact .inl rfl | exact .inr rfl | exact h8⟩
        · subst ha
          obtain ⟨q1, q2, q3, q4⟩ := p6 (by decide) hk2
          have q2 := q2 (by decide)
          have q3 := q3 (by decide)
          subst q1 q2 q3
          by_cases h1 : yb - 1 < yt
          · simp [stepH, rstepH, hk2, popS, rpopS, Dq.ss, ht, hb, hc, hp, h1, SS.says, rend]
            exact ⟨rfl, rfl, rfl, fun _ => ⟨rfl, rfl, rfl, rfl⟩, fun _ _ h => absurd rfl h, fun _ _ h => absurd rfl h, fun _ _ h => absurd rfl h, by first | exact .inl rfl | exact .inr rfl | exact h8⟩
          · have hg := getR_pos (pl := S.pl) (k := yb - 1) hr1 (by omega)
            by_cases h2 : yt < yb - 1
            · simp [stepH, rstepH, hk2, popS, rpopS, Dq.ss, ht, hb, hc, hp, h1, h2, SS.says, rend, hg]
              exact ⟨rfl, rfl, rfl, fun _ => ⟨rfl, rfl, rfl, rfl⟩, fun _ _ h => absurd rfl h, fun _ _ h => absurd rfl h, fun _ _ h => absurd rfl h, by first | exact .inl rfl | exact .inr rfl | exact h8⟩
            · by_cases h3 : S.top = yt
              · simp [stepH, rstepH, hk2, popS, rpopS, Dq.ss, ht, hb, hc, hp, h1, h2, h3, hg]
                exact ⟨rfl, rfl, rfl, fun h => by simp at h, fun q hq _ hq2 => absurd hq2 (by have e := Option.some.inj (hq.symm.trans ho); rw [e]; omega), fun _ _ _ _ => ⟨rfl, fun h => by simp at h, fun _ => rfl, fun _ => ⟨rfl, rfl⟩⟩, fun q hq _ hq2 => absurd hq2 (by have e := Option.some.inj (hq.symm.trans ho); rw [e]; omega), by first | exact .inl rfl | exact .inr rfl | exact h8⟩
              · simp [stepH, rstepH, hk2, popS, rpopS, Dq.ss, ht, hb, hc, hp, h1, h2, h3, hg]
                exact ⟨rfl, rfl, rfl, fun h => by simp at h, fun q hq _ hq2 => absurd hq2 (by have e := Option.some.inj (hq.symm.trans ho); rw [e]; omega), fun _ _ _ _ => ⟨rfl, fun h => by simp at h, fun _ => rfl, fun _ => ⟨rfl, rfl⟩⟩, fun q hq _ hq2 => absurd hq2 (by have e := Option.some.inj (hq.symm.trans ho); rw [e]; omega), by first | exact .inl rfl | exact .inr rfl | exact h8⟩
        · subst ha
          obtain ⟨q1, q2, q3, q4⟩ := p6 (by decide) hk2
          obtain ⟨q6, q7⟩ := q4 rfl
          subst q1
          subst q6
          subst q7
          simp [stepH, rstepH, hk2, popS, rpopS, Dq.ss, ht, hb, hc, hp, SS.says, rend]
          exact ⟨rfl, rfl, rfl, fun _ => ⟨rfl, rfl, rfl, rfl⟩, fun _ _ h => absurd rfl h, fun _ _ h => absurd rfl h, fun _ _ h => absurd rfl h, by first | exact .inl rfl | exact .inr rfl | exact h8⟩
  · have hxm := List.mem_of_getElem? hxk
    have hk := HI.tho _ hxm o (List.mem_of_getElem? ho)
    have hI := HI.thi _ hxm
    obtain ⟨a0, a3, t0, _, _, _, _, _⟩ := hI
    dsimp only at a0 a3 t0
    have hk1 : ¬ o.1 = 1 := by omega
    have hk2 : ¬ o.1 = 2 := by omega
    have hq : ya = 0 ∨ ya = 1 ∨ ya = 2 ∨ ya = 3 := by omega
    rcases hq with ha | ha | ha | ha
    · subst ha
      obtain ⟨z1, z2, z3, z4⟩ := h4 rfl
      subst z1 z2 z3 z4
      simp [stepH, rstepH, hk1, hk2, stealS, rstealS, Dq.ss, ht, hb, hc, hp]
      exact ⟨rfl, rfl, rfl, fun h => by simp at h, fun q hq _ hq2 => absurd hq2 (by have e := Option.some.inj (hq.symm.trans ho); rw [e]; omega), fun q hq _ hq2 => absurd hq2 (by have e := Option.some.inj (hq.symm.trans ho); rw [e]; omega), fun _ _ _ _ => ⟨rfl, fun h => by simp at h⟩, by first | exact .inl rfl | exact .inr rfl | exact h8⟩
    · subst ha
      obtain ⟨q1, _⟩ := p7 (by decide) hk
      subst q1
      by_cases h1 : S.bottom ≤ yt
      · simp [stepH, rstepH, hk1, hk2, stealS, rstealS, Dq.ss, ht, hb, hc, hp, h1, SS.says, rend]
        exact ⟨rfl, rfl, rfl, fun _ => ⟨rfl, rfl, rfl, rfl⟩, fun _ _ h => absurd rfl h, fun _ _ h => absurd rfl h, fun _ _ h => absurd rfl h, by first | exact .inl rfl | exact .inr rfl | exact h8⟩
      · simp [stepH, rstepH, hk1, hk2, stealS, rstealS, Dq.ss, ht, hb, hc, hp, h1]
        exact ⟨rfl, rfl, rfl, fun h => by simp at h, fun q hq _ hq2 => absurd hq2 (by have e := Option.some.inj (hq.symm.trans ho); rw [e]; omega), fun q hq _ hq2 => absurd hq2 (by have e := Option.some.inj (hq.symm.trans ho); rw [e]; omega), fun _ _ _ _ => ⟨rfl, fun h => by simp at h⟩, by first | exact .inl rfl | exact .inr rfl | exact h8⟩
    · subst ha
      obtain ⟨q1, _⟩ := p7 (by decide) hk
      subst q1
      have hg := getR_pos (pl := S.pl) (k := yt) hr1 t0
      simp [stepH, rstepH, hk1, hk2, stealS, rstealS, Dq.ss, ht, hb, hc, hp, hg]
      exact ⟨rfl, rfl, rfl, fun h => by simp at h, fun q hq _ hq2 => absurd hq2 (by have e := Option.some.inj (hq.symm.trans ho); rw [e]; omega), fun q hq _ hq2 => absurd hq2 (by have e := Option.some.inj (hq.symm.trans ho); rw [e]; omega), fun _ _ _ _ => ⟨rfl, fun _ => rfl⟩, by first | exact .inl rfl | exact .inr rfl | exact h8⟩
    · subst ha
      obtain ⟨q1, q2⟩ := p7 (by decide) hk
      have q2 := q2 rfl
      subst q1 q2
      simp [stepH, rstepH, hk1, hk2, stealS, rstealS, Dq.ss, ht, hb, hc, hp, SS.says, rend]
      refine ⟨by by_cases h : S.top = yt <;> simp [h], ?_⟩
      refine ⟨rfl, by by_cases h : S.top = yt <;> simp [h], rfl, fun _ => ⟨rfl, rfl, rfl, rfl⟩, fun _ _ h => absurd rfl h, fun _ _ h => absurd rfl h, fun _ _ h => absurd rfl h, by first | exact .inl rfl | exact .inr rfl | exact h8⟩

/-- An access on both sides. -/
theorem Sim.step (H : Sim S R) (hg : Good S) (i : Nat) (hi : i < S.hs.length) (hne : S.hs[i].said.length ≠ S.hs[i].ops.length) : Sim (S.step i) (R.rstep i) := by
  obtain ⟨L, p, x0, th, HI⟩ := hg
  have hx : S.hs[i]? = some S.hs[i] := List.getElem?_eq_getElem hi
  have hle := HI.len _ (List.getElem_mem hi)
  have ho : S.hs[i].ops[S.hs[i].said.length]? = some S.hs[i].ops[S.hs[i].said.length] := List.getElem?_eq_getElem (by omega)
  generalize S.hs[i].ops[S.hs[i].said.length] = o at ho
  have hi2 : i < R.hs.length := by rw [H.len]; exact hi
  have hy : R.hs[i]? = some R.hs[i] := List.getElem?_eq_getElem hi2
  generalize S.hs[i] = x at *
  generalize R.hs[i] = y at *
  have hr := H.hs i x y hx hy
  have ho2 : y.ops[y.said.length]? = some o := by rw [hr.ops, hr.said]; exact ho
  have e1 : S.step i = S.upd i x (stepH S i x o) := by simp [Dq.step, hx, ho]
  have e2 : R.rstep i = R.upd i y (rstepH R y o) := by simp [Dq.rstep, hy, ho2]
  rw [e1, e2]
  obtain ⟨k1, k2, k3, k4, k5, k6⟩ := sim_own H HI i hx hy ho
  refine ⟨k1, k2, k3, k4, by simp [Dq.upd, H.len], ?_⟩
  intro j x' y' hx' hy'
  have hx' : (S.hs.set i ⟨x.ops, (stepH S i x o).said, (stepH S i x o).at_, (stepH S i x o).t, (stepH S i x o).b, (stepH S i x o).v, (stepH S i x o).won⟩)[j]? = some x' := hx'
  have hy' : (R.hs.set i ⟨y.ops, (rstepH R y o).said, (rstepH R y o).at_, (rstepH R y o).t, (rstepH R y o).b, (rstepH R y o).v, (rstepH R y o).won⟩)[j]? = some y' := hy'
  show HRel (stepH S i x o).pl x' y'
  by_cases hj : j = i
  · subst hj
    rw [List.getElem?_set_self hi] at hx'
    rw [List.getElem?_set_self hi2] at hy'
    cases hx'; cases hy'
    exact k5
  · rw [List.getElem?_set_ne (Ne.symm hj)] at hx' hy'
    have h := H.hs j x' y' hx' hy'
    by_cases hi0 : i = 0
    · refine ⟨h.ops, h.said, h.at_, h.zero, h.push, fun q hq h0 h2 => ?_, h.steal, h.b0⟩
      -- no thief pops
      have hjx : x' ∈ th := by
        rw [HI.hs] at hx'
        obtain ⟨m, rfl⟩ : ∃ m, j = m + 1 := ⟨j - 1, by omega⟩
        exact List.mem_of_getElem? (by simpa using hx')
      have := HI.tho x' hjx q (List.mem_of_getElem? hq)
      omega
    · rw [k6 hi0]; exact h
theorem Sim.new {r : Int} {own : List (Int × Int)} {ths : List Int} : Sim (newDq r.toNat own ths) (newDq r.toNat own ths) := by
  refine ⟨rfl, rfl, rfl, rfl, rfl, ?_⟩
  intro i x y hx hy
  rw [hx] at hy
  cases hy
  have hx0 : x ∈ (newDq r.toNat own ths).hs := List.mem_of_getElem? hx
  have : x.at_ = 0 ∧ x.t = 0 ∧ x.b = 0 ∧ x.v = 0 ∧ x.won = false := by
    rcases List.mem_cons.1 hx0 with rfl | h
    · exact ⟨rfl, rfl, rfl, rfl, rfl⟩
    · obtain ⟨n, _, rfl⟩ := List.mem_map.1 h
      exact ⟨rfl, rfl, rfl, rfl, rfl⟩
  obtain ⟨a1, a2, a3, a4, a5⟩ := this
  exact ⟨rfl, rfl, rfl, fun _ => ⟨a2, a3, a4, a5⟩, fun _ _ h => absurd a1 h, fun _ _ h => absurd a1 h, fun _ _ h => absurd a1 h, .inl rfl⟩
end Go.Proofs.Ytpgdpddmgljpmaa
