/-
  Items as the walks have them; what the tables of this translation say of its types.
-/
import Derived.Test.YtkjiiikcillcfaaBase
import Derived.Test.YtkjiiikcillcfaaRows
namespace Go.Proofs.Ytkjiiikcillcfaa
open Go.RowKit

structure It where
  kind : Int
  size : Int
  al : Int
  to : Int
  add : Int
  lo : Int
  hi : Int
  deriving DecidableEq

abbrev i64 (n : Int) : Value := .int .i64 n
def It.cells (x : It) : List Value := [i64 x.kind, i64 x.size, i64 x.al, i64 x.to, i64 x.add, i64 x.lo, i64 x.hi]
def It.val (x : It) : Value := .agg #[i64 x.kind, i64 x.size, i64 x.al, i64 x.to, i64 x.add, i64 x.lo, i64 x.hi]

def inI64 (n : Int) : Prop := -9223372036854775808 ≤ n ∧ n ≤ 9223372036854775807
def It.ok (x : It) : Prop := inI64 x.kind ∧ inI64 x.size ∧ inI64 x.al ∧ inI64 x.to ∧ inI64 x.add ∧ inI64 x.lo ∧ inI64 x.hi

def within (n a b : Int) : Bool := decide (a ≤ n) && decide (n ≤ b)

/-- What relax.plain asks. -/
def plainP (x : It) (n : Int) : Bool :=
  if x.kind = 1 then decide (x.al = 0 ∧ x.to = 0 ∧ x.add = 0 ∧ x.lo = 0 ∧ x.hi = 0) && within x.size 0 67108864
  else if x.kind = 2 then decide (x.size = 0 ∧ x.to = 0 ∧ x.add = 0 ∧ x.lo = 0 ∧ x.hi = 0) && within x.al 0 12
  else if x.kind = 3 then decide (x.size = 0 ∧ x.al = 0) && (within x.to 0 n && (within x.add (-1073741824) 1073741824 && (within x.lo (-1073741824) 1073741824 && within x.hi (-1073741824) 1073741824)))
  else false

/-- The items' cells, one behind the other. -/
def itCells (xs : List It) : List Value := xs.flatMap It.cells
theorem itCells_len (xs : List It) : (itCells xs).length = 7 * xs.length := by
  induction xs with
  | nil => rfl
  | cons a l ih => simp [itCells] at *; rw [ih]; simp [It.cells]; omega
theorem itCells_get (xs : List It) : ∀ (k : Nat) (h : k < xs.length) (j : Nat) (_ : j < 7), (itCells xs)[7 * k + j]? = (It.cells xs[k])[j]? := by
  induction xs with
  | nil => intro k h; simp at h
  | cons a l ih =>
    intro k h j hj
    have ea : (itCells (a :: l)) = It.cells a ++ itCells l := by simp [itCells]
    have el : (It.cells a).length = 7 := rfl
    rw [ea]
    cases k with
    | zero => rw [List.getElem?_append_left (by omega)]; simp
    | succ k =>
      rw [List.getElem?_append_right (by omega), el]
      have := ih k (by simpa using h) j hj
      rw [show 7 * (k + 1) + j - 7 = 7 * k + j from by omega, this]
      simp

/-- The seven cells of item k. -/
theorem item_cells {w : World} {b o : Nat} {xs : List It} (h : Row w (some ⟨b, o, none⟩) (itCells xs)) (k : Nat) (hk : k < xs.length) :
    w.cell? ⟨b, o + k * 7, none⟩ = some (i64 xs[k].kind) ∧ w.cell? ⟨b, o + k * 7 + 1, none⟩ = some (i64 xs[k].size) ∧ w.cell? ⟨b, o + k * 7 + 2, none⟩ = some (i64 xs[k].al) ∧ w.cell? ⟨b, o + k * 7 + 3, none⟩ = some (i64 xs[k].to) ∧
    w.cell? ⟨b, o + k * 7 + 4, none⟩ = some (i64 xs[k].add) ∧ w.cell? ⟨b, o + k * 7 + 5, none⟩ = some (i64 xs[k].lo) ∧ w.cell? ⟨b, o + k * 7 + 6, none⟩ = some (i64 xs[k].hi) := by
  have each : ∀ j (hj : j < 7), w.cell? ⟨b, o + (k * 7 + j), none⟩ = (It.cells xs[k])[j]? := fun j hj => by
    have hl := itCells_len xs
    rw [show k * 7 + j = 7 * k + j from by omega]
    rw [h.cell (7 * k + j) (by omega), ← itCells_get xs k hk j hj]
    exact (List.getElem?_eq_getElem (by omega)).symm
  exact ⟨each 0 (by omega), each 1 (by omega), each 2 (by omega), each 3 (by omega), each 4 (by omega), each 5 (by omega), each 6 (by omega)⟩


/-- A boxed item behind an append. -/
theorem box_kept {wr w2 : World} {c0 c1 c2 c3 c4 c5 c6 v : Value} {o2 : Obj} (hg : ((wr.alloc (.cells #[c0, c1, c2, c3, c4, c5, c6] 34)).alloc o2).grownBy w2 v.ownBlock) (hlt : ∀ g, v.ownBlock = some g → g < wr.heap.size) :
    w2.cell? ⟨wr.heap.size, 0, none⟩ = some c0 ∧ w2.cell? ⟨wr.heap.size, 1, none⟩ = some c1 ∧ w2.cell? ⟨wr.heap.size, 2, none⟩ = some c2 ∧ w2.cell? ⟨wr.heap.size, 3, none⟩ = some c3 ∧ w2.cell? ⟨wr.heap.size, 4, none⟩ = some c4 ∧ w2.cell? ⟨wr.heap.size, 5, none⟩ = some c5 ∧ w2.cell? ⟨wr.heap.size, 6, none⟩ = some c6 := by
  have hr := (row_new wr [c0, c1, c2, c3, c4, c5, c6] 34).alloc o2
  have hk := hr.kept hg (fun a ha e => by
    simp at ha
    subst ha
    have := hlt _ e.symm
    simp at this)
  exact ⟨hk.cell 0 (by simp), hk.cell 1 (by simp), hk.cell 2 (by simp), hk.cell 3 (by simp), hk.cell 4 (by simp), hk.cell 5 (by simp), hk.cell 6 (by simp)⟩

theorem pow12 (n : Nat) (h : n ≤ 12) : 1 ≤ (2 : Int) ^ n ∧ (2 : Int) ^ n ≤ 4096 := by
  have : n = 0 ∨ n = 1 ∨ n = 2 ∨ n = 3 ∨ n = 4 ∨ n = 5 ∨ n = 6 ∨ n = 7 ∨ n = 8 ∨ n = 9 ∨ n = 10 ∨ n = 11 ∨ n = 12 := by omega
  rcases this with h | h | h | h | h | h | h | h | h | h | h | h | h <;> subst h <;> decide

def mostP (x : It) : Int := if x.kind = 1 then x.size else if x.kind = 2 then 2 ^ x.al.toNat - 1 else 8

theorem plainP_al {x : It} {n : Int} (h : plainP x n = true) (hk : x.kind = 2) : 0 ≤ x.al ∧ x.al ≤ 12 := by
  simp [plainP, hk, within] at h; omega
theorem mostP_bd {x : It} {n : Int} (h : plainP x n = true) : 0 ≤ mostP x ∧ mostP x ≤ 67108864 := by
  by_cases h1 : x.kind = 1
  · simp [plainP, mostP, h1, within] at h ⊢; omega
  · by_cases h2 : x.kind = 2
    · have ha := plainP_al h h2
      have hp := pow12 x.al.toNat (by omega)
      simp only [mostP, if_neg h1, if_pos h2]; omega
    · simp only [mostP, if_neg h1, if_neg h2]; omega

def total (xs : List It) : Int := (xs.map mostP).sum
theorem total_append (xs ys : List It) : total (xs ++ ys) = total xs + total ys := by simp [total]
theorem total_snoc (xs : List It) (x : It) : total (xs ++ [x]) = total xs + mostP x := by simp [total]
theorem total_bd (n : Int) (xs : List It) (h : ∀ x ∈ xs, plainP x n = true) : 0 ≤ total xs := by
  induction xs with
  | nil => simp [total]
  | cons a l ih =>
    have := mostP_bd (h a (by simp))
    have h2 := ih (fun x hx => h x (by simp [hx]))
    simp [total] at *; omega
theorem total_take (n : Int) (xs : List It) (h : ∀ x ∈ xs, plainP x n = true) (k : Nat) : total (xs.take k) ≤ total xs := by
  have e : xs = xs.take k ++ xs.drop k := (List.take_append_drop k xs).symm
  have h2 := total_bd n (xs.drop k) (fun x hx => h x (List.mem_of_mem_drop hx))
  have h3 : total xs = total (xs.take k) + total (xs.drop k) := by
    conv => lhs; rw [e]
    exact total_append _ _
  omega

def checkP (xs : List It) : Int :=
  if 65536 < xs.length then 3 else if xs.all (fun x => plainP x xs.length) then (if 67108864 < total xs then 161 else 0) else 160
end Go.Proofs.Ytkjiiikcillcfaa
