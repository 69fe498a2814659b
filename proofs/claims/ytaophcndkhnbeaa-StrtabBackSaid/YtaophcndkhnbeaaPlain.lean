/-
  What strtab.Build and the document's Build reckon, as plain functions on lists, and that they are one.
-/
import Derived.Test.YtaophcndkhnbeaaBase
namespace Go.Proofs.Ytaophcndkhnbeaa

def hasZero (s : ByteArray) : Bool := s.data.toList.contains 0

/-- The state of strtab.Build's loop. -/
structure BSt where
  tab : List UInt8
  at_ : List (ByteArray × Int)
  places : List Int
  long : Bool

def bstep (s : BSt) (n : ByteArray) : BSt :=
  if (alook s.at_ n).isSome then { s with places := s.places ++ [(alook s.at_ n).getD 0] }
  else
    let lg := s.long || decide (1048576 - (s.tab.length : Int) ≤ n.size)
    { tab := if lg then s.tab else s.tab ++ n.data.toList ++ [0], at_ := aset s.at_ n s.tab.length, places := s.places ++ [(s.tab.length : Int)], long := lg }

def bst0 : BSt := ⟨[0], [(ByteArray.empty, 0)], [], false⟩
def bst (xs : List ByteArray) : BSt := xs.foldl bstep bst0

def buildP (xs : List ByteArray) : List UInt8 × List Int × Int :=
  if xs.any hasZero then ([], [], 6) else if (bst xs).long then ([], [], 3) else ((bst xs).tab, (bst xs).places, 0)

theorem bst_snoc (xs : List ByteArray) (n : ByteArray) : bst (xs ++ [n]) = bstep (bst xs) n := by simp [bst, List.foldl_append]

theorem alook_aset {κ β : Type} [DecidableEq κ] (m : List (κ × β)) (x y : κ) (u : β) : alook (aset m x u) y = if y = x then some u else alook m y := by
  induction m with
  | nil => simp [aset, alook]
  | cons p r ih =>
    simp only [aset]
    by_cases h : x = p.1
    · subst h
      simp only [if_true, alook]
      by_cases h2 : y = p.1 <;> simp [h2]
    · simp only [if_neg h, alook, ih]
      by_cases h2 : y = p.1
      · have : y ≠ x := fun e => h (e ▸ h2)
        simp [h2, Ne.symm h]
      · simp [h2]

theorem bst_tab_le (xs : List ByteArray) : 1 ≤ (bst xs).tab.length ∧ (bst xs).tab.length ≤ 1048576 := by
  suffices h : ∀ (ys : List ByteArray) (s : BSt), 1 ≤ s.tab.length ∧ s.tab.length ≤ 1048576 → 1 ≤ (ys.foldl bstep s).tab.length ∧ (ys.foldl bstep s).tab.length ≤ 1048576 by
    exact h xs bst0 (by simp [bst0])
  intro ys
  induction ys with
  | nil => intro s h; exact h
  | cons n r ih =>
    intro s h
    refine ih _ ?_
    unfold bstep
    split
    · exact h
    · dsimp only
      split
      · exact h
      · rename_i hl
        simp only [Bool.or_eq_true, decide_eq_true_eq, not_or] at hl
        have e : n.data.toList.length = n.size := by rw [Array.length_toList]; rfl
        simp only [List.length_append, List.length_cons, List.length_nil, e]
        omega

theorem bst_places (xs : List ByteArray) : (bst xs).places.length = xs.length := by
  suffices h : ∀ (ys : List ByteArray) (s : BSt), (ys.foldl bstep s).places.length = s.places.length + ys.length by
    exact (h xs bst0).trans (by simp [bst0])
  intro ys
  induction ys with
  | nil => intro s; simp
  | cons n r ih =>
    intro s
    rw [List.foldl_cons, ih]
    unfold bstep
    split <;> simp <;> omega

/-- Where a name comes first. -/
def firstOf (xs : List ByteArray) (x : ByteArray) : Nat := xs.findIdx (fun s => decide (s = x))

theorem firstOf_step (xs : List ByteArray) (x : ByteArray) (k : Nat) (hk : k ≤ firstOf xs x) (hl : k < xs.length) :
    (xs[k] = x → firstOf xs x = k) ∧ (xs[k] ≠ x → k + 1 ≤ firstOf xs x) := by
  unfold firstOf at *
  constructor
  · intro h
    rw [List.findIdx_eq hl]
    exact ⟨by simp [h], fun j hj => List.not_of_lt_findIdx (p := fun s => decide (s = x)) (by omega)⟩
  · intro h
    apply Classical.byContradiction
    intro hn
    have : xs.findIdx (fun s => decide (s = x)) = k := by omega
    rw [List.findIdx_eq hl] at this
    simp [h] at this
theorem firstOf_le (xs : List ByteArray) (i : Nat) (hi : i < xs.length) : firstOf xs xs[i] ≤ i := by
  apply Classical.byContradiction
  intro hn
  have := (firstOf_step xs xs[i] i (by omega) hi).1 rfl
  omega

/-- The state of the document's Build: the table, the places; none: the table has grown too long. -/
def rstep (xs : List ByteArray) (i : Nat) (n : ByteArray) (s : List UInt8 × List Int) : List UInt8 × List Int :=
  if n = ByteArray.empty then (s.1, s.2 ++ [0])
  else if firstOf xs n < i then (s.1, s.2 ++ [s.2.getD (firstOf xs n) 0])
  else (s.1 ++ n.data.toList ++ [0], s.2 ++ [(s.1.length : Int)])

def rst (xs : List ByteArray) : Nat → List UInt8 × List Int
  | 0 => ([0], [])
  | k + 1 => rstep xs k (xs.getD k ByteArray.empty) (rst xs k)

def rlong (xs : List ByteArray) (k : Nat) : Bool := (List.range k).any (fun j => decide (1048576 < (rst xs (j + 1)).1.length))

def buildR (xs : List ByteArray) : List UInt8 × List Int × Int :=
  if xs.any hasZero then ([], [], 6) else if rlong xs xs.length then ([], [], 3) else ((rst xs xs.length).1, (rst xs xs.length).2, 0)

theorem rst_places (xs : List ByteArray) : ∀ k, (rst xs k).2.length = k
  | 0 => rfl
  | k + 1 => by
    have := rst_places xs k
    unfold rst rstep
    split
    · simp [this]
    · split <;> simp [this]
theorem rlong_succ (xs : List ByteArray) (k : Nat) : rlong xs (k + 1) = (rlong xs k || decide (1048576 < (rst xs (k + 1)).1.length)) := by
  simp [rlong, List.range_succ, List.any_append]
theorem rst_tab_pos (xs : List ByteArray) : ∀ k, 1 ≤ (rst xs k).1.length
  | 0 => by simp [rst]
  | k + 1 => by
    have := rst_tab_pos xs k
    unfold rst rstep
    split
    · exact this
    · split
      · exact this
      · simp; omega
theorem rst_tab_le (xs : List ByteArray) (k : Nat) (h : rlong xs k = false) : (rst xs k).1.length ≤ 1048576 := by
  cases k with
  | zero => simp [rst]
  | succ k =>
    rw [rlong_succ] at h
    simp at h
    omega
end Go.Proofs.Ytaophcndkhnbeaa
