/-
  Cells as the walks have them, and what is made of them, in plain words.
-/
import Derived.Test.YthmockfeffikjaaInts
namespace Go.Proofs.Ythmockfeffikjaa
open Go.RowKit

structure Ce where
  kind : Int
  n : Int
  owner : Int
  need : Int
  came : List Int
  turns : Int
  there : Bool
  deriving DecidableEq
structure Ac where
  kind : Int
  cell : Int
  old : Int
  new : Int

def Ce.val (x : Ce) (p : Option Addr) (c : Nat) : Value := .agg #[i64 x.kind, i64 x.n, i64 x.owner, i64 x.need, .slice p x.came.length c, i64 x.turns, .bool x.there]
def Ac.val (a : Ac) : Value := .agg #[i64 a.kind, i64 a.cell, i64 a.old, i64 a.new]

def Ce.ok (x : Ce) : Prop := inI64 x.kind ∧ inI64 x.n ∧ inI64 x.owner ∧ inI64 x.need ∧ inI64 x.turns ∧ ∀ v ∈ x.came, inI64 v
def Ac.ok (a : Ac) : Prop := inI64 a.kind ∧ inI64 a.cell ∧ inI64 a.old ∧ inI64 a.new

def isW (n : Int) : Bool := decide (0 ≤ n) && decide (n < 64)
def badMk (k n : Int) : Bool := decide (k < 1) || decide (4 < k) || (decide (k = 3) && (decide (n < 1) || decide (64 < n))) || (decide (k ≠ 3) && decide (n ≠ 0))
def ce0 : Ce := ⟨0, 0, 0, 0, [], 0, false⟩
def makeP (k n : Int) : Ce × Int := if badMk k n then (ce0, 1) else (⟨k, 0, -1, n, [], 0, false⟩, 0)

/-- The first k that came are workers, each once. -/
def cameN (l : List Int) (k : Nat) : Bool := (List.range k).all (fun i => isW (l.getD i 0) && !(l.take i).contains (l.getD i 0))
theorem cameN_succ (l : List Int) (k : Nat) : cameN l (k + 1) = (cameN l k && (isW (l.getD k 0) && !(l.take k).contains (l.getD k 0))) := by
  simp [cameN, List.range_succ]
def gateHead (x : Ce) : Bool := decide (1 ≤ x.need) && decide (x.need ≤ 64) && decide ((x.came.length : Int) < x.need) && decide (0 ≤ x.turns) && decide (x.turns ≤ 1152921504606846976)
def gateP (x : Ce) : Bool := gateHead x && cameN x.came x.came.length
def okP (x : Ce) : Bool :=
  if x.kind = 1 then decide (x.owner = -1) && decide (x.need = 0) && decide (x.came = []) && decide (x.turns = 0) && !x.there
  else if x.kind = 2 then (decide (x.owner = -1) || isW x.owner) && decide (x.n = 0) && decide (x.need = 0) && decide (x.came = []) && decide (x.turns = 0) && !x.there
  else if x.kind = 3 then gateP x && decide (x.n = 0) && decide (x.owner = -1) && !x.there
  else if x.kind = 4 then (x.there || decide (x.n = 0)) && decide (x.owner = -1) && decide (x.need = 0) && decide (x.came = []) && decide (x.turns = 0)
  else false
def ckP (x : Ce) : Int := if okP x then 0 else 230

/-- What an access makes of a cell that may be: the cell, what it answers, what is wrong. -/
def stepP (x : Ce) (wk : Int) (a : Ac) : Ce × Int × Int :=
  if x.kind = 1 then
    if a.kind = 1 then (x, x.n, 0)
    else if a.kind = 2 then (if x.n = a.old then ({ x with n := a.new }, 1, 0) else (x, 0, 0))
    else if a.kind = 9 then ({ x with n := wrap64 (x.n + a.new) }, x.n, 0)
    else (x, 0, 230)
  else if x.kind = 2 then
    if a.kind = 3 then (if x.owner = wk then (x, 0, 232) else if x.owner = -1 then ({ x with owner := wk }, 0, 0) else (x, 0, 231))
    else if a.kind = 4 then (if x.owner = wk then ({ x with owner := -1 }, 0, 0) else (x, 0, 232))
    else (x, 0, 230)
  else if x.kind = 3 then
    if a.kind = 6 then (if x.turns ≤ a.old then (x, 0, 231) else (x, x.turns, 0))
    else if a.kind = 5 then
      if x.came.contains wk then (x, 0, 232)
      else if x.turns = 1152921504606846976 then (x, 0, 8)
      else if ((x.came.length : Int) + 1 = x.need) then ({ x with came := [], turns := x.turns + 1 }, x.turns, 0)
      else ({ x with came := x.came ++ [wk] }, x.turns, 0)
    else (x, 0, 230)
  else
    if a.kind = 7 then (if x.there then (x, 0, 5) else ({ x with there := true, n := a.new }, 0, 0))
    else if a.kind = 8 then (if x.there then (x, x.n, 0) else (x, 0, 231))
    else (x, 0, 230)
def oneP (x : Ce) (wk : Int) (a : Ac) : Ce × Int × Int :=
  if okP x = false then (x, 0, 230) else if isW wk = false then (x, 0, 1) else stepP x wk a

/-- A cell in memory of its own. -/
def CeBlk (w : World) (b : Nat) (x : Ce) (p : Option Addr) (c : Nat) : Prop :=
  w.heap[b]? = some (.cells #[i64 x.kind, i64 x.n, i64 x.owner, i64 x.need, .slice p x.came.length c, i64 x.turns, .bool x.there] 30 (0, 0))
def CeFacts (w : World) (b : Nat) (x : Ce) (p : Option Addr) (c : Nat) : Prop :=
    (w.cell? ⟨b, 0, none⟩ = some (i64 x.kind) ∧ w.cell? ⟨b, 1, none⟩ = some (i64 x.n) ∧ w.cell? ⟨b, 2, none⟩ = some (i64 x.owner) ∧ w.cell? ⟨b, 3, none⟩ = some (i64 x.need) ∧ w.cell? ⟨b, 4, none⟩ = some (.slice p x.came.length c) ∧ w.cell? ⟨b, 5, none⟩ = some (i64 x.turns) ∧ w.cell? ⟨b, 6, none⟩ = some (.bool x.there)) ∧
    (∀ o, w.frozen? ⟨b, o, none⟩ = false) ∧ b < w.heap.size
theorem CeBlk.facts {w : World} {b : Nat} {x : Ce} {p : Option Addr} {c : Nat} (h : CeBlk w b x p c) : CeFacts w b x p c := by
  refine ⟨⟨cell_of_row w b 0 _ _ _ h, cell_of_row w b 1 _ _ _ h, cell_of_row w b 2 _ _ _ h, cell_of_row w b 3 _ _ _ h, cell_of_row w b 4 _ _ _ h, cell_of_row w b 5 _ _ _ h, cell_of_row w b 6 _ _ _ h⟩, fun o => frozen_of_row w b o _ _ h, (Array.getElem?_eq_some_iff.1 h).1⟩

/-- What a function that makes a cell tells. -/
def CeTell (x : Ce) (r : List Value) (w : World) (e : Ending) (w' : World) : Prop :=
  ∃ p c, e = .returned (.tuple ([x.val p c] ++ r).toArray) ∧ SlAt w' p c x.came ∧ Below w.heap.size w w'
end Go.Proofs.Ythmockfeffikjaa
