/-
  Owned rows whose elements are stored into; owned rows that a call leaves as they lay.
  Integers in rows.
  Cells as the walks have them, and what is made of them, in plain words.
  The walks of slices.Index and slices.Contains at slices of int.
-/
import Derived.Test.YthmockfeffikjaaJE0
import Derived.Test.YthmockfeffikjaaProg
import Derived.Test.YthmockfeffikjaaRows
import Derived.Lib.SliceRun
import Derived.IntWalk
namespace Go.Proofs.Ythmockfeffikjaa
open Go.RowKit

/-- What is owned lies on through a call that leaves all that lay. -/
theorem own_below {w w' : World} {base : Nat} {e : TypeId} {size : Nat} {v : Value} {n : Nat} {xs : List Value} (h : w.ownsRow base e size v n xs) (hb : Below w.heap.size w w') : w'.ownsRow base e size v n xs := by
  refine ⟨h.1, ?_⟩
  rcases h.2 with hn | ⟨g, cap, cur, hv, hge, hg, rest⟩
  · exact .inl hn
  · exact .inr ⟨g, cap, cur, hv, hge, (hb.block g (Array.getElem?_eq_some_iff.1 hg).1).trans hg, rest⟩

/-- The same at another bound. -/
theorem own_belowB {B : Nat} {w w' : World} {base : Nat} {e : TypeId} {size : Nat} {v : Value} {n : Nat} {xs : List Value} (h : w.ownsRow base e size v n xs) (hb : Below B w w') (hv : ∀ g, v.ownBlock = some g → g < B) : w'.ownsRow base e size v n xs := by
  refine ⟨h.1, ?_⟩
  rcases h.2 with hn | ⟨g, cap, cur, rfl, hge, hg, rest⟩
  · exact .inl hn
  · exact .inr ⟨g, cap, cur, rfl, hge, (hb.block g (hv g rfl)).trans hg, rest⟩

/-- The border may be set lower. -/
theorem own_lower {w : World} {base base' : Nat} {e : TypeId} {size : Nat} {v : Value} {n : Nat} {xs : List Value} (h : w.ownsRow base e size v n xs) (hb : base' ≤ base) : w.ownsRow base' e size v n xs := by
  refine ⟨h.1, ?_⟩
  rcases h.2 with hn | ⟨g, cap, cur, hv, hge, rest⟩
  · exact .inl hn
  · exact .inr ⟨g, cap, cur, hv, by omega, rest⟩

/-- The cells of an owned row, and that none is frozen. -/
theorem own_cell {w : World} {base : Nat} {e : TypeId} {size g n c : Nat} {xs : List Value} (h : w.ownsRow base e size (.slice (some ⟨g, 0, none⟩) n c) n xs) (i : Nat) (hi : i < xs.length) :
    w.cell? ⟨g, i, none⟩ = some xs[i] ∧ w.frozen? ⟨g, i, none⟩ = false := by
  refine ⟨?_, ?_⟩
  · have := h.cells (g := g) rfl i xs[i] (by simp [hi])
    rwa [addr_add, Nat.zero_add] at this
  · rcases h.2 with ⟨h0, _⟩ | ⟨g', cap', cur, hv, hg, hh, _⟩
    · cases h0
    · cases hv; exact frozen_of_row _ _ _ _ _ hh

theorem list_take_set {α : Type} (l : List α) (n i : Nat) (x : α) : (l.set i x).take n = (l.take n).set i x := by
  apply List.ext_getElem?
  intro j
  simp only [List.getElem?_take, List.getElem?_set, List.length_take]
  by_cases hj : j < n
  · by_cases hij : i = j
    · subst hij
      by_cases hl : i < l.length
      · simp [hj, hl, show i < min n l.length by omega]
      · simp [hj, hl, show ¬ i < min n l.length by omega]
    · simp [hj, hij]
  · by_cases hij : i = j
    · subst hij; simp [hj]; omega
    · simp [hj, hij]

/-- A store into an owned row. -/
theorem own_set {w : World} {base : Nat} {e : TypeId} {size g n c : Nat} {xs : List Value} (h : w.ownsRow base e size (.slice (some ⟨g, 0, none⟩) n c) n xs) (i : Nat) (u : Value) :
    (w.setCell ⟨g, i, none⟩ u).ownsRow base e size (.slice (some ⟨g, 0, none⟩) n c) n (xs.set i u) := by
  refine ⟨by rw [List.length_set]; exact h.1, ?_⟩
  rcases h.2 with ⟨h0, _⟩ | ⟨g', cap', cur, hv, hge, hh, hn, hcap, hsz, htake⟩
  · cases h0
  · cases hv
    refine .inr ⟨g, c, cur.setIfInBounds i u, rfl, hge, heap_setCell_same w g i cur e u hh, hn, hcap, by simpa using hsz, ?_⟩
    rw [Array.toList_setIfInBounds, list_take_set, htake]

/-- An owned row of more than no cells lies in a block. -/
theorem own_block {w : World} {base : Nat} {e : TypeId} {size : Nat} {v : Value} {n : Nat} {xs : List Value} (h : w.ownsRow base e size v n xs) (hn : 0 < n) : ∃ g c, v = .slice (some ⟨g, 0, none⟩) n c ∧ base ≤ g ∧ g < w.heap.size ∧ n ≤ c ∧ c ≤ maxLen := by
  rcases h.2 with ⟨_, h0⟩ | ⟨g, c, cur, hv, hge, hh, hnc, hcm, _⟩
  · omega
  · exact ⟨g, c, hv, hge, (Array.getElem?_eq_some_iff.1 hh).1, hnc, hcm⟩

/-- A store into a block leaves rows in other blocks. -/
theorem Row.set_other {w : World} {p : Option Addr} {cs : List Value} (h : Row w p cs) (a : Addr) (u : Value) (hne : ∀ q, p = some q → q.block ≠ a.block) : Row (w.setCell a u) p cs := by
  intro hcs
  obtain ⟨b, o, hp, hc⟩ := h hcs
  refine ⟨b, o, hp, fun i hi => ?_⟩
  rw [World.cell?_setCell_other]
  · exact hc i hi
  · intro e
    have := congrArg Addr.block e
    exact hne _ hp this.symm

/-- What is owned lies on where another block is stored into. -/
theorem own_setO {w : World} {base : Nat} {e : TypeId} {size : Nat} {v : Value} {n : Nat} {xs : List Value} (h : w.ownsRow base e size v n xs) (a : Addr) (u : Value) (hne : ∀ g, v.ownBlock = some g → g ≠ a.block) : (w.setCell a u).ownsRow base e size v n xs := by
  refine ⟨h.1, ?_⟩
  rcases h.2 with hn | ⟨g, cap, cur, rfl, hge, hg, rest⟩
  · exact .inl hn
  · exact .inr ⟨g, cap, cur, rfl, hge, (Below.heap_setCell w a u g (hne g rfl)).trans hg, rest⟩
theorem grown_frozen {w w' : World} {row : Option Nat} (hg : w.grownBy w' row) (a : Addr) (hlt : a.block < w.heap.size) (hne : some a.block ≠ row) : w'.frozen? a = w.frozen? a := World.frozen?_of_block (hg.block a.block hlt hne)

/-- A store into a newer block leaves rows as they lay. -/
theorem Row.set_lt {w0 w : World} {p : Option Addr} {cs : List Value} (h : Row w p cs) (h0 : Row w0 p cs) (a : Addr) (u : Value) (ha : w0.heap.size ≤ a.block) : Row (w.setCell a u) p cs := by
  intro hcs
  obtain ⟨b, o, rfl, hc⟩ := h hcs
  obtain ⟨b', o', e, hc'⟩ := h0 hcs
  cases e
  have hl : b < w0.heap.size := World.block_lt_of_cell? w0 _ (hc' 0 (by cases cs with | nil => exact absurd rfl hcs | cons a l => simp))
  refine ⟨b, o, rfl, fun i hi => ?_⟩
  rw [World.cell?_setCell_other]
  · exact hc i hi
  · intro e
    have := congrArg Addr.block e
    simp at this
    omega

/-- Zeros of one cell. -/
theorem made_one (z : Value) (n : Nat) (hz : z.cells = #[z]) : (madeCells z.cells (n * 1)).toList = List.replicate n z := by
  rw [hz]
  simp only [madeCells, Nat.mul_one]
  apply List.ext_getElem
  · simp
  · intro i h1 h2
    simp [Nat.mod_one]

/-- A list whose first k elements are f's, the rest z. -/
def fillTo {α : Type} (f : Nat → α) (z : α) (n k : Nat) : List α := (List.range n).map (fun j => if j < k then f j else z)
theorem fill_len {α : Type} (f : Nat → α) (z : α) (n k : Nat) : (fillTo f z n k).length = n := by simp [fillTo]
theorem fill_get {α : Type} (f : Nat → α) (z : α) (n k j : Nat) (h : j < n) : (fillTo f z n k)[j]'(by simp [fillTo, h]) = if j < k then f j else z := by simp [fillTo]
theorem fill_zero {α : Type} (f : Nat → α) (z : α) (n : Nat) : fillTo f z n 0 = List.replicate n z := by
  apply List.ext_getElem
  · simp [fillTo]
  · intro i h1 h2; simp [fillTo]
theorem fill_full {α : Type} (f : Nat → α) (z : α) (n : Nat) : fillTo f z n n = (List.range n).map f := by
  apply List.ext_getElem
  · simp [fillTo]
  · intro i h1 h2; simp [fillTo] at h1 ⊢; omega
theorem fill_set {α : Type} (f : Nat → α) (z : α) (n k : Nat) : (fillTo f z n k).set k (f k) = fillTo f z n (k + 1) := by
  apply List.ext_getElem
  · simp [fillTo]
  · intro i h1 h2
    simp only [fillTo, List.length_map, List.length_range] at h2
    rw [List.getElem_set]
    simp only [fillTo, List.getElem_map, List.getElem_range]
    by_cases hk : k = i
    · subst hk; simp
    · by_cases h3 : i < k
      · rw [if_neg hk, if_pos h3, if_pos (by omega)]
      · rw [if_neg hk, if_neg h3, if_neg (by omega)]
theorem fill_skip {α : Type} (f : Nat → α) (z : α) (n k : Nat) (h : f k = z) : fillTo f z n k = fillTo f z n (k + 1) := by
  apply List.ext_getElem
  · simp [fillTo]
  · intro i h1 h2
    simp only [fillTo, List.getElem_map, List.getElem_range]
    by_cases h3 : i < k
    · rw [if_pos h3, if_pos (by omega)]
    · by_cases hk : k = i
      · subst hk; rw [if_neg (by omega), if_pos (by omega), h]
      · rw [if_neg h3, if_neg (by omega)]
end Go.Proofs.Ythmockfeffikjaa
namespace Go.Proofs.Ythmockfeffikjaa
open Go.RowKit

abbrev i64 (n : Int) : Value := .int .i64 n
abbrev i64s (l : List Int) : List Value := l.map (Value.int .i64)
abbrev bools (l : List Bool) : List Value := l.map Value.bool
def inI64 (n : Int) : Prop := -9223372036854775808 ≤ n ∧ n ≤ 9223372036854775807
theorem wf_i64 {n : Int} (h : (Lit.int .i64 n).wf = true) : inI64 n := by
  simp [Lit.wf, IntKind.min, IntKind.max, IntKind.bits, IntKind.signed] at h
  simp only [inI64]
  omega
theorem ints_one (l : List Int) : ∀ u ∈ i64s l, u.oneCell' = true := by
  intro u hu
  simp at hu
  obtain ⟨_, _, rfl⟩ := hu
  rfl
theorem bcell {W w1 : World} (hb : Below W.heap.size W w1) : (∀ b o, b < W.heap.size → w1.cell? ⟨b, o, none⟩ = W.cell? ⟨b, o, none⟩) ∧ (∀ b o, b < W.heap.size → w1.frozen? ⟨b, o, none⟩ = W.frozen? ⟨b, o, none⟩) :=
  ⟨fun b o h => hb.cell (p := ⟨b, o, none⟩) h, fun b o h => hb.frozen (p := ⟨b, o, none⟩) h⟩
/-- A slice of integers lies at p. -/
def SlAt (w : World) (p : Option Addr) (c : Nat) (l : List Int) : Prop := l.length ≤ c ∧ c ≤ maxLen ∧ (p = none → c = 0) ∧ Row w p (i64s l)
theorem slat_nil (w : World) : SlAt w none 0 [] := ⟨Nat.le_refl _, Nat.zero_le _, fun _ => rfl, Row.nil _ _⟩
theorem SlAt.below {W w : World} {p : Option Addr} {c : Nat} {l : List Int} (h : SlAt W p c l) (hb : Below W.heap.size W w) : SlAt w p c l := ⟨h.1, h.2.1, h.2.2.1, h.2.2.2.below hb⟩
theorem SlAt.alloc {w : World} {p : Option Addr} {c : Nat} {l : List Int} (h : SlAt w p c l) (o : Obj) : SlAt (w.alloc o) p c l := ⟨h.1, h.2.1, h.2.2.1, h.2.2.2.alloc o⟩
theorem SlAt.drew {w : World} {p : Option Addr} {c : Nat} {l : List Int} (h : SlAt w p c l) : SlAt w.drew p c l := h
theorem own_slat {w : World} {base : Nat} {e : TypeId} {p : Option Addr} {n m c : Nat} {l : List Int} (h : w.ownsRow base e 1 (.slice p m c) n (i64s l)) : SlAt w p c l := by
  have hn : l.length = n := by have := h.1; simpa using this
  obtain ⟨p', c', e', h1, h2, h3, h4, h5⟩ := own_row h
  cases e'
  refine ⟨by omega, h2, fun hp => ?_, h3⟩
  subst hp
  rcases h.2 with ⟨hv, _⟩ | ⟨g, cap, cur, hv, _⟩
  · cases hv; rfl
  · cases hv
end Go.Proofs.Ythmockfeffikjaa
namespace Go.Proofs.Ythmockfeffikjaa
open Go.RowKit

structure Ce where
  kind : Int
  n : Int
  owner : Int
  need : Int
  came : List Int
  turns : Int
  there : Bool
  deriving DecidableEq
structure Ac where
  kind : Int
  cell : Int
  old : Int
  new : Int

def Ce.val (x : Ce) (p : Option Addr) (c : Nat) : Value := .agg #[i64 x.kind, i64 x.n, i64 x.owner, i64 x.need, .slice p x.came.length c, i64 x.turns, .bool x.there]
def Ac.val (a : Ac) : Value := .agg #[i64 a.kind, i64 a.cell, i64 a.old, i64 a.new]

def Ce.ok (x : Ce) : Prop := inI64 x.kind ∧ inI64 x.n ∧ inI64 x.owner ∧ inI64 x.need ∧ inI64 x.turns ∧ ∀ v ∈ x.came, inI64 v
def Ac.ok (a : Ac) : Prop := inI64 a.kind ∧ inI64 a.cell ∧ inI64 a.old ∧ inI64 a.new

def isW (n : Int) : Bool := decide (0 ≤ n) && decide (n < 64)
def badMk (k n : Int) : Bool := decide (k < 1) || decide (4 < k) || (decide (k = 3) && (decide (n < 1) || decide (64 < n))) || (decide (k ≠ 3) && decide (n ≠ 0))
def ce0 : Ce := ⟨0, 0, 0, 0, [], 0, false⟩
def makeP (k n : Int) : Ce × Int := if badMk k n then (ce0, 1) else (⟨k, 0, -1, n, [], 0, false⟩, 0)

/-- The first k that came are workers, each once. -/
def cameN (l : List Int) (k : Nat) : Bool := (List.range k).all (fun i => isW (l.getD i 0) && !(l.take i).contains (l.getD i 0))
theorem cameN_succ (l : List Int) (k : Nat) : cameN l (k + 1) = (cameN l k && (isW (l.getD k 0) && !(l.take k).contains (l.getD k 0))) := by
  simp [cameN, List.range_succ]
def gateHead (x : Ce) : Bool := decide (1 ≤ x.need) && decide (x.need ≤ 64) && decide ((x.came.length : Int) < x.need) && decide (0 ≤ x.turns) && decide (x.turns ≤ 1152921504606846976)
def gateP (x : Ce) : Bool := gateHead x && cameN x.came x.came.length
def okP (x : Ce) : Bool :=
  if x.kind = 1 then decide (x.owner = -1) && decide (x.need = 0) && decide (x.came = []) && decide (x.turns = 0) && !x.there
  else if x.kind = 2 then (decide (x.owner = -1) || isW x.owner) && decide (x.n = 0) && decide (x.need = 0) && decide (x.came = []) && decide (x.turns = 0) && !x.there
  else if x.kind = 3 then gateP x && decide (x.n = 0) && decide (x.owner = -1) && !x.there
  else if x.kind = 4 then (x.there || decide (x.n = 0)) && decide (x.owner = -1) && decide (x.need = 0) && decide (x.came = []) && decide (x.turns = 0)
  else false
def ckP (x : Ce) : Int := if okP x then 0 else 230

/-- What an access makes of a cell that may be: the cell, what it answers, what is wrong. -/
def stepP (x : Ce) (wk : Int) (a : Ac) : Ce × Int × Int :=
  if x.kind = 1 then
    if a.kind = 1 then (x, x.n, 0)
    else if a.kind = 2 then (if x.n = a.old then ({ x with n := a.new }, 1, 0) else (x, 0, 0))
    else if a.kind = 9 then ({ x with n := wrap64 (x.n + a.new) }, x.n, 0)
    else (x, 0, 230)
  else if x.kind = 2 then
    if a.kind = 3 then (if x.owner = wk then (x, 0, 232) else if x.owner = -1 then ({ x with owner := wk }, 0, 0) else (x, 0, 231))
    else if a.kind = 4 then (if x.owner = wk then ({ x with owner := -1 }, 0, 0) else (x, 0, 232))
    else (x, 0, 230)
  else if x.kind = 3 then
    if a.kind = 6 then (if x.turns ≤ a.old then (x, 0, 231) else (x, x.turns, 0))
    else if a.kind = 5 then
      if x.came.contains wk then (x, 0, 232)
      else if x.turns = 1152921504606846976 then (x, 0, 8)
      else if ((x.came.length : Int) + 1 = x.need) then ({ x with came := [], turns := x.turns + 1 }, x.turns, 0)
      else ({ x with came := x.came ++ [wk] }, x.turns, 0)
    else (x, 0, 230)
  else
    if a.kind = 7 then (if x.there then (x, 0, 5) else ({ x with there := true, n := a.new }, 0, 0))
    else if a.kind = 8 then (if x.there then (x, x.n, 0) else (x, 0, 231))
    else (x, 0, 230)
def oneP (x : Ce) (wk : Int) (a : Ac) : Ce × Int × Int :=
  if okP x = false then (x, 0, 230) else if isW wk = false then (x, 0, 1) else stepP x wk a

/-- A cell in memory of its own. -/
def CeBlk (w : World) (b : Nat) (x : Ce) (p : Option Addr) (c : Nat) : Prop :=
  w.heap[b]? = some (.cells #[i64 x.kind, i64 x.n, i64 x.owner, i64 x.need, .slice p x.came.length c, i64 x.turns, .bool x.there] 30 (0, 0))
def CeFacts (w : World) (b : Nat) (x : Ce) (p : Option Addr) (c : Nat) : Prop :=
    (w.cell? ⟨b, 0, none⟩ = some (i64 x.kind) ∧ w.cell? ⟨b, 1, none⟩ = some (i64 x.n) ∧ w.cell? ⟨b, 2, none⟩ = some (i64 x.owner) ∧ w.cell? ⟨b, 3, none⟩ = some (i64 x.need) ∧ w.cell? ⟨b, 4, none⟩ = some (.slice p x.came.length c) ∧ w.cell? ⟨b, 5, none⟩ = some (i64 x.turns) ∧ w.cell? ⟨b, 6, none⟩ = some (.bool x.there)) ∧
    (∀ o, w.frozen? ⟨b, o, none⟩ = false) ∧ b < w.heap.size
theorem CeBlk.facts {w : World} {b : Nat} {x : Ce} {p : Option Addr} {c : Nat} (h : CeBlk w b x p c) : CeFacts w b x p c := by
  refine ⟨⟨cell_of_row w b 0 _ _ _ h, cell_of_row w b 1 _ _ _ h, cell_of_row w b 2 _ _ _ h, cell_of_row w b 3 _ _ _ h, cell_of_row w b 4 _ _ _ h, cell_of_row w b 5 _ _ _ h, cell_of_row w b 6 _ _ _ h⟩, fun o => frozen_of_row w b o _ _ h, (Array.getElem?_eq_some_iff.1 h).1⟩

/-- What a function that makes a cell tells. -/
def CeTell (x : Ce) (r : List Value) (w : World) (e : Ending) (w' : World) : Prop :=
  ∃ p c, e = .returned (.tuple ([x.val p c] ++ r).toArray) ∧ SlAt w' p c x.came ∧ Below w.heap.size w w'
end Go.Proofs.Ythmockfeffikjaa
namespace Go.Proofs.Ythmockfeffikjaa
open Go.RowKit

/-- Where v stands first, or -1. -/
def idxFrom (v : Int) : List Int → Nat → Int
  | [], _ => -1
  | a :: l, k => if v = a then k else idxFrom v l (k + 1)
theorem idxFrom_iff (v : Int) : ∀ (l : List Int) (k : Nat), 0 ≤ idxFrom v l k ↔ l.contains v = true
  | [], _ => by simp [idxFrom]
  | a :: l, k => by
    have ih := idxFrom_iff v l (k + 1)
    simp only [idxFrom, List.contains_cons]
    by_cases h : v = a
    · simp [h]
    · rw [if_neg h, ih]; simp [h]
theorem idxFrom_ge (v : Int) (l : List Int) (k : Nat) : decide (0 ≤ idxFrom v l k) = l.contains v := by
  rw [Bool.eq_iff_iff, decide_eq_true_iff]; exact idxFrom_iff v l k
theorem idxFrom_drop (v : Int) (l : List Int) (k : Nat) (h : k < l.length) : idxFrom v (l.drop k) k = if v = l[k] then (k : Int) else idxFrom v (l.drop (k + 1)) (k + 1) := by
  rw [List.drop_eq_getElem_cons h]; rfl

set_option maxHeartbeats 1000000 in
theorem indexI_any (p : Option Addr) (c : Nat) (l : List Int) (v : Int) (w : World) (hl : l.length ≤ maxLen) (hrow : Row w p (i64s l)) :
    Calls Try.prog 74 #[.slice p l.length c, i64 v] w fun e w' => e = .returned (i64 (idxFrom v l 0)) ∧ w = w' := by
  unfold maxLen at hl
  go_enter Try.func74, Try.ntmps74
  go_wp2
  go_loop [8] (fun i => ∃ k : Nat, k ≤ l.length ∧ i = .int .i64 k ∧ idxFrom v (l.drop k) k = idxFrom v l 0) (fun i => l.length - (intOf i).toNat)
  case atStart => exact ⟨0, Nat.zero_le _, rfl, by simp⟩
  case round =>
    obtain ⟨k, hk, rfl, he⟩ := hrel
    have HE := hid he
    clear he
    by_cases hlt : k < l.length
    · obtain ⟨b1, o1, rfl, hb1, hz1⟩ := hrow.at (by simp; omega)
      clear hz1
      have c1 := hrow.cell k (by simpa using hlt)
      simp only [i64s, List.getElem_map] at c1
      have HD := hid (idxFrom_drop v l k hlt)
      obtain ⟨x, hx⟩ : ∃ x, x = l[k] := ⟨_, rfl⟩
      rw [← hx] at c1 HD
      clear hx
      by_cases hxv : v = x
      · have hb : (v == x) = true := by simpa using hxv
        have HF : Hid (idxFrom v l 0 = (k : Int)) := by rw [Hid, ← HE.out, HD.out, if_pos hxv]
        clear hxv
        go_wp2
        go_ret
        exact ⟨ret_int (by rw [HF.out]), rfl⟩
      · have hb : (v == x) = false := by simpa using hxv
        have HF : Hid (idxFrom v (l.drop (k + 1)) (k + 1) = idxFrom v l 0) := by rw [Hid, ← HE.out, HD.out, if_neg hxv]
        clear hxv
        go_wp2
        go_round
        case rel => exact ⟨k + 1, by omega, by go_num, HF.out⟩
        case measure => simp [intOf]; omega
    · have hkx : k = l.length := by omega
      have HF : Hid (idxFrom v l 0 = -1) := by rw [Hid, ← HE.out, hkx, List.drop_length]; rfl
      subst hkx
      go_wp2
      go_ret
      exact ⟨ret_int (by rw [HF.out]), rfl⟩

set_option maxHeartbeats 1000000 in
theorem containsI_any (p : Option Addr) (c : Nat) (l : List Int) (v : Int) (w : World) (hl : l.length ≤ maxLen) (hrow : Row w p (i64s l)) :
    Calls Try.prog 66 #[.slice p l.length c, i64 v] w fun e w' => e = .returned (.bool (l.contains v)) ∧ w = w' := by
  have H := hid (indexI_any p c l v w hl hrow)
  have HC := hid (idxFrom_ge v l 0)
  obtain ⟨x, hx⟩ : ∃ x, x = idxFrom v l 0 := ⟨_, rfl⟩
  rw [← hx] at H HC
  clear hx
  go_enter Try.func66, Try.ntmps66
  go_wp2_with (go_at_call 74; refine H.out.mono ?_; rintro e w1 ⟨rfl, rfl⟩)
  go_ret
  exact ⟨ret_bool (by rw [← HC.out]), rfl⟩
end Go.Proofs.Ythmockfeffikjaa
