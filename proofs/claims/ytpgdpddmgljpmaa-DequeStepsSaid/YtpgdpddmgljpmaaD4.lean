/-
  push, pop and steal as plain functions; a whole deque in memory.
-/
import Derived.Test.YtpgdpddmgljpmaaD3
namespace Go.Proofs.Ytpgdpddmgljpmaa
open Go.RowKit

def pushS (s : SS) (v : Int) : SS :=
  if s.at_ = 1 then (if s.bottom - s.top = s.pl.length then ({ s with b := s.bottom, count := s.count + 1 }).says false 0 else { s with b := s.bottom, count := s.count + 1 })
  else if s.at_ = 2 then { s with count := s.count + 1, pl := putP s.pl s.b v }
  else ({ s with count := s.count + 1, bottom := s.b + 1 }).says true v
def popS (s : SS) : SS :=
  if s.at_ = 1 then { s with b := s.bottom, count := s.count + 1, bottom := s.bottom - 1 }
  else if s.at_ = 2 then { s with count := s.count + 1, t := s.top }
  else if s.at_ = 3 then
    if s.b - 1 < s.t then ({ s with count := s.count + 1, bottom := s.b }).says false 0
    else if s.t < s.b - 1 then ({ s with count := s.count + 1 }).says true (getP s.pl (s.b - 1))
    else { s with count := s.count + 1, top := if s.top = s.t then s.top + 1 else s.top, won := decide (s.top = s.t) }
  else ({ s with count := s.count + 1, bottom := s.b }).says s.won (getP s.pl (s.b - 1))
def stealS (s : SS) : SS :=
  if s.at_ = 1 then { s with count := s.count + 1, t := s.top }
  else if s.at_ = 2 then (if s.bottom ≤ s.t then ({ s with count := s.count + 1 }).says false 0 else { s with count := s.count + 1 })
  else if s.at_ = 3 then { s with count := s.count + 1, v := getP s.pl s.t }
  else ({ s with count := s.count + 1, top := if s.top = s.t then s.top + 1 else s.top }).says (decide (s.top = s.t)) s.v

/-- The numbers are small, and the row of places is one. -/
structure Fit (s : SS) : Prop where
  t1 : -1000000000000 ≤ s.top ∧ s.top ≤ 1000000000000
  b1 : -1000000000000 ≤ s.bottom ∧ s.bottom ≤ 1000000000000
  c1 : -1000000000000 ≤ s.count ∧ s.count ≤ 1000000000000
  b2 : -1000000000000 ≤ s.b ∧ s.b ≤ 1000000000000
  p1 : 0 < s.pl.length
  p2 : s.pl.length ≤ 256
  l1 : s.said.length ≤ 1000000
def pushOk (s : SS) : Prop := s.at_ = 1 ∨ (s.at_ = 2 ∧ 0 ≤ s.b) ∨ s.at_ = 3
def popOk (s : SS) : Prop := s.at_ = 1 ∨ s.at_ = 2 ∨ (s.at_ = 3 ∧ (s.t < s.b - 1 → 0 ≤ s.b - 1)) ∨ (s.at_ = 4 ∧ 0 ≤ s.b - 1)
def stealOk (s : SS) : Prop := s.at_ = 1 ∨ s.at_ = 2 ∨ (s.at_ = 3 ∧ 0 ≤ s.t) ∨ s.at_ = 4
theorem wrap_small {n : Int} (h1 : -2000000000000 ≤ n) (h2 : n ≤ 2000000000000) : wrap64 n = n := IntWalk.wrap64_in n ⟨by omega, by omega⟩

variable {w w' : World} {base d h P c : Nat} {wv hs : Value} {S : SS} {sv : Value}
theorem push_any (H : St w base d h P c wv hs S sv) (v : Int) (hf : Fit S) (ho : pushOk S) :
    Calls Try.prog 39 #[.pointer (some ⟨d, 0, none⟩), .pointer (some ⟨h, 0, none⟩), i64 v] w (PostS w base d h P c wv hs (pushS S v) sv) := by
  obtain ⟨t1, b1, c1, b2, p1, p2, l1⟩ := hf
  have hc : wrap64 (S.count + 1) = S.count + 1 := wrap_small (by omega) (by omega)
  have hbt : wrap64 (S.bottom - S.top) = S.bottom - S.top := wrap_small (by omega) (by omega)
  have hb1 : wrap64 (S.b + 1) = S.b + 1 := wrap_small (by omega) (by omega)
  rcases ho with ha | ⟨ha, h0⟩ | ha
  · by_cases hx : S.bottom - S.top = S.pl.length
    · exact push1f H v ha (by rw [hbt]; exact hx) l1 _ (by simp [pushS, ha, hx, SS.inc, hc])
    · exact push1 H v ha (by rw [hbt]; exact hx) l1 _ (by simp [pushS, ha, hx, SS.inc, hc])
  · exact push2 H v ha h0 p1 p2 l1 _ (by simp [pushS, ha, SS.inc, hc])
  · exact push3 H v ha _ rfl l1 _ (by simp [pushS, ha, SS.inc, hc, hb1])
theorem pop_any (H : St w base d h P c wv hs S sv) (hf : Fit S) (ho : popOk S) :
    Calls Try.prog 40 #[.pointer (some ⟨d, 0, none⟩), .pointer (some ⟨h, 0, none⟩)] w (PostS w base d h P c wv hs (popS S) sv) := by
  obtain ⟨t1, b1, c1, b2, p1, p2, l1⟩ := hf
  have hc : wrap64 (S.count + 1) = S.count + 1 := wrap_small (by omega) (by omega)
  have ht : wrap64 (S.top + 1) = S.top + 1 := wrap_small (by omega) (by omega)
  have hb0 : S.bottom - 1 = wrap64 (S.bottom - 1) := (wrap_small (by omega) (by omega)).symm
  have hb1 : S.b - 1 = wrap64 (S.b - 1) := (wrap_small (by omega) (by omega)).symm
  rcases ho with ha | ha | ⟨ha, h0⟩ | ⟨ha, h0⟩
  · exact pop1 H ha _ hb0 l1 _ (by simp [popS, ha, SS.inc, hc])
  · exact pop2 H ha l1 _ (by simp [popS, ha, SS.inc, hc])
  · by_cases h1 : S.b - 1 < S.t
    · exact pop3e H ha _ hb1 h1 l1 _ (by simp [popS, ha, SS.inc, hc, h1])
    · by_cases h2 : S.t < S.b - 1
      · exact pop3y H ha _ hb1 h2 (h0 h2) p1 p2 l1 _ (by simp [popS, ha, SS.inc, hc, h1, h2])
      · exact pop3c H ha _ hb1 (by omega) (if S.top = S.t then S.top + 1 else S.top) (by rw [ht]) _ rfl l1 _ (by simp [popS, ha, SS.inc, hc, h1, h2])
  · exact pop4 H ha _ hb1 h0 p1 p2 l1 _ (by simp [popS, ha, SS.inc, hc])
theorem steal_any (H : St w base d h P c wv hs S sv) (hf : Fit S) (ho : stealOk S) :
    Calls Try.prog 41 #[.pointer (some ⟨d, 0, none⟩), .pointer (some ⟨h, 0, none⟩)] w (PostS w base d h P c wv hs (stealS S) sv) := by
  obtain ⟨t1, b1, c1, b2, p1, p2, l1⟩ := hf
  have hc : wrap64 (S.count + 1) = S.count + 1 := wrap_small (by omega) (by omega)
  have ht : wrap64 (S.top + 1) = S.top + 1 := wrap_small (by omega) (by omega)
  rcases ho with ha | ha | ⟨ha, h0⟩ | ha
  · exact steal1 H ha l1 _ (by simp [stealS, ha, SS.inc, hc])
  · by_cases h1 : S.bottom ≤ S.t
    · exact steal2f H ha h1 l1 _ (by simp [stealS, ha, SS.inc, hc, h1])
    · exact steal2 H ha h1 l1 _ (by simp [stealS, ha, SS.inc, hc, h1])
  · exact steal3 H ha h0 p1 p2 l1 _ (by simp [stealS, ha, SS.inc, hc])
  · exact steal4 H ha (if S.top = S.t then S.top + 1 else S.top) (by rw [ht]) _ rfl l1 _ (by simp [stealS, ha, SS.inc, hc])

structure Hd where
  ops : List (Int × Int)
  said : List (Bool × Int)
  at_ : Int
  t : Int
  b : Int
  v : Int
  won : Bool
structure Dq where
  top : Int
  bottom : Int
  count : Int
  pl : List Int
  hs : List Hd
/-- What worker i sees. -/
def Dq.ss (S : Dq) (x : Hd) : SS := ⟨S.top, S.bottom, S.count, S.pl, x.at_, x.t, x.b, x.v, x.won, x.said⟩
def Dq.upd (S : Dq) (i : Nat) (x : Hd) (s : SS) : Dq := ⟨s.top, s.bottom, s.count, s.pl, S.hs.set i ⟨x.ops, s.said, s.at_, s.t, s.b, s.v, s.won⟩⟩
def Hd.done (x : Hd) : Bool := decide (x.said.length = x.ops.length)
/-- One access of worker i. -/
def stepH (S : Dq) (i : Nat) (x : Hd) (o : Int × Int) : SS :=
  let s : SS := { S.ss x with at_ := x.at_ + 1 }
  if o.1 = 1 then pushS s o.2 else if i = 0 ∨ o.1 = 2 then popS s else stealS s
def Dq.step (S : Dq) (i : Nat) : Dq :=
  match S.hs[i]? with
  | none => S
  | some x => match x.ops[x.said.length]? with
    | none => S
    | some o => S.upd i x (stepH S i x o)

def opCells (l : List (Int × Int)) : List Value := l.flatMap (fun a => [i64 a.1, i64 a.2])
theorem opCells_len (l : List (Int × Int)) : (opCells l).length = 2 * l.length := by
  induction l with
  | nil => rfl
  | cons r l ih => simp only [opCells, List.flatMap_cons] at ih ⊢; rw [List.length_append, ih]; simp; omega
theorem opCells_at (rs : List (Int × Int)) (k : Nat) (hk : k < rs.length) : (opCells rs)[2 * k]? = some (i64 rs[k].1) ∧ (opCells rs)[2 * k + 1]? = some (i64 rs[k].2) := by
  induction rs generalizing k with
  | nil => simp at hk
  | cons r l ih =>
    have e : opCells (r :: l) = i64 r.1 :: i64 r.2 :: opCells l := by simp [opCells]
    rw [e]
    cases k with
    | zero => simp
    | succ k =>
      have := ih k (by simpa using hk)
      rw [show 2 * (k + 1) = 2 * k + 1 + 1 by omega]
      simpa using this
theorem op_cells {w : World} {b o : Nat} {rs : List (Int × Int)} (h : Row w (some ⟨b, o, none⟩) (opCells rs)) (k : Nat) (hk : k < rs.length) :
    w.cell? ⟨b, o + k * 2, none⟩ = some (i64 rs[k].1) ∧ w.cell? ⟨b, o + k * 2 + 1, none⟩ = some (i64 rs[k].2) := by
  rw [Nat.mul_comm k 2]
  have hl := opCells_len rs
  obtain ⟨h1, h2⟩ := opCells_at rs k hk
  have c1 := h.cell (2 * k) (by omega)
  have c2 := h.cell (2 * k + 1) (by omega)
  rw [List.getElem?_eq_getElem (by omega)] at h1 h2
  rw [Option.some.inj h1] at c1
  rw [Option.some.inj h2] at c2
  exact ⟨c1, c2⟩
/-- A row of operations, in blocks of operations. -/
structure WorkAt (w : World) (v : Value) (ops : List (Int × Int)) : Prop where
  ex : ∃ p c, v = .slice p ops.length c ∧ Row w p (opCells ops) ∧ (∀ a, p = some a → ops ≠ [] → ∃ cur fz, w.heap[a.block]? = some (.cells cur 27 fz))
theorem WorkAt.only {w w' : World} {v : Value} {ops : List (Int × Int)} {B : List (Option Nat)} (h : WorkAt w v ops) (ho : Only B w w') (hB : ∀ k, k < w.heap.size → some k ∈ B → ∀ cur fz, w.heap[k]? ≠ some (.cells cur 27 fz)) : WorkAt w' v ops := by
  obtain ⟨p, c, hv, hr, ht⟩ := h.ex
  have key : ∀ a, p = some a → ops ≠ [] → w'.heap[a.block]? = w.heap[a.block]? := fun a ha hne => by
    obtain ⟨cur, fz, hc⟩ := ht a ha hne
    have hlt := (Array.getElem?_eq_some_iff.1 hc).1
    exact ho.block a.block hlt (fun hm => hB _ hlt hm cur fz hc)
  refine ⟨p, c, hv, ?_, fun a ha hne => by rw [key a ha hne]; exact ht a ha hne⟩
  intro hne
  obtain ⟨b, f, rfl, hcell⟩ := hr hne
  have hne2 : ops ≠ [] := by rintro rfl; exact hne rfl
  refine ⟨b, f, rfl, fun i hi => ?_⟩
  rw [← hcell i hi]
  exact World.cell?_of_block (a := ⟨b, f + i, none⟩) (key ⟨b, f, none⟩ rfl hne2)

/-- A deque in memory: the deque's block, its places, its hands' blocks. -/
structure DqIs (w : World) (base d P c : Nat) (hsv : Value) (hb : Nat → Nat) (sv wv : Nat → Value) (S : Dq) : Prop where
  dd : DAt w d ⟨S.top, S.bottom, .slice (some ⟨P, 0, none⟩) S.pl.length c, S.count, hsv⟩
  pp : PAt w P S.pl
  hown : w.ownsRow base 63 1 hsv S.hs.length ((List.range S.hs.length).map (fun i => .pointer (some ⟨hb i, 0, none⟩)))
  hand : ∀ i (h : i < S.hs.length), HAt w (hb i) ⟨wv i, sv i, S.hs[i].at_, S.hs[i].t, S.hs[i].b, S.hs[i].v, S.hs[i].won⟩
  own : ∀ i (h : i < S.hs.length), w.ownsRow base 40 2 (sv i) S.hs[i].said.length (ansCells S.hs[i].said)
  work : ∀ i (h : i < S.hs.length), WorkAt w (wv i) S.hs[i].ops
  nd : ∀ i j, i < S.hs.length → j < S.hs.length → hb i = hb j → i = j
  apart : ∀ i j, i < S.hs.length → j < S.hs.length → i ≠ j → Apart (sv i) (sv j)
  bs : base ≤ w.heap.size
  bd : base ≤ d
  bP : base ≤ P
  bh : ∀ i, i < S.hs.length → base ≤ hb i
end Go.Proofs.Ytpgdpddmgljpmaa
