/-
  The accesses of a deque, each by itself.
-/
import Derived.Test.YtpgdpddmgljpmaaBase
import Derived.Test.YtpgdpddmgljpmaaOwn
import Derived.Test.YtpgdpddmgljpmaaRangeO
import Derived.Test.YtpgdpddmgljpmaaShelf
import Derived.WalkMore
import Derived.BigQuiet
namespace Go.Proofs.Ytpgdpddmgljpmaa
open Go.RowKit

abbrev i64 (n : Int) : Value := .int .i64 n

/-- Only these blocks have turned. -/
structure Only (B : List (Option Nat)) (w w' : World) : Prop where
  os : w'.os = w.os
  tape : w'.tape = w.tape
  output : w'.output = w.output
  size : w.heap.size ≤ w'.heap.size
  block : ∀ k, k < w.heap.size → some k ∉ B → w'.heap[k]? = w.heap[k]?
theorem Only.refl (w : World) : Only [] w w := ⟨rfl, rfl, rfl, Nat.le_refl _, fun _ _ _ => rfl⟩
theorem Only.trans {A B : List (Option Nat)} {a b c : World} (h : Only A a b) (k : Only B b c) : Only (A ++ B) a c :=
  ⟨k.os.trans h.os, k.tape.trans h.tape, k.output.trans h.output, Nat.le_trans h.size k.size, fun i hi hn => (k.block i (Nat.lt_of_lt_of_le hi h.size) (fun h => hn (List.mem_append_right _ h))).trans (h.block i hi (fun h => hn (List.mem_append_left _ h)))⟩
theorem Only.grown {w w' : World} {row : Option Nat} (h : w.grownBy w' row) : Only [row] w w' :=
  ⟨h.os, h.tape, h.output, h.size, fun k hk hn => h.block k hk (fun e => hn (by rw [← e]; simp))⟩
theorem Only.less {A B : List (Option Nat)} {a b : World} (h : Only A a b) (hs : ∀ k, k < a.heap.size → some k ∈ A → some k ∈ B) : Only B a b :=
  ⟨h.os, h.tape, h.output, h.size, fun k hk hn => h.block k hk (fun hm => hn (hs k hk hm))⟩
theorem Only.alloc {A : List (Option Nat)} {a b : World} (h : Only A a b) (o : Obj) : Only A a (b.alloc o) :=
  ⟨h.os, h.tape, h.output, by have := h.size; simp; omega, fun k hk hn => (Below.heap_alloc _ _ _ (Nat.lt_of_lt_of_le hk h.size)).trans (h.block k hk hn)⟩
theorem grown_set (w : World) (a : Addr) (v : Value) : w.grownBy (w.setCell a v) (some a.block) := by
  have h := grownBy_setCell' w a.block v
  refine ⟨?_, ?_, ?_, ?_, fun k hk hn => heap_setCell_other _ _ _ _ (fun e => hn (by rw [e]))⟩
  · unfold World.setCell; split <;> rfl
  · unfold World.setCell; split <;> rfl
  · unfold World.setCell; split <;> rfl
  · simp
theorem grown_trans {a b c : World} {row : Option Nat} (h : a.grownBy b row) (k : b.grownBy c row) : a.grownBy c row :=
  ⟨k.os.trans h.os, k.tape.trans h.tape, k.output.trans h.output, Nat.le_trans h.size k.size, fun i hi hn => (k.block i (Nat.lt_of_lt_of_le hi h.size) hn).trans (h.block i hi hn)⟩
theorem grown_drewN {a b : World} {row : Option Nat} (h : a.grownBy b row) (q : Nat) : a.grownBy (b.drewN q) row := ⟨h.os, h.tape, h.output, h.size, h.block⟩
theorem Only.set {A : List (Option Nat)} {a b : World} (h : Only A a b) (p : Addr) (v : Value) (hp : some p.block ∈ A ∨ a.heap.size ≤ p.block) : Only A a (b.setCell p v) :=
  ⟨(grown_set b p v).os.trans h.os, (grown_set b p v).tape.trans h.tape, (grown_set b p v).output.trans h.output, Nat.le_trans h.size (grown_set b p v).size, fun k hk hn => (heap_setCell_other _ _ _ _ (by rintro rfl; rcases hp with h | h; exact hn h; omega)).trans (h.block k hk hn)⟩
theorem Only.drewN {A : List (Option Nat)} {a b : World} (h : Only A a b) (q : Nat) : Only A a (b.drewN q) := ⟨h.os, h.tape, h.output, h.size, h.block⟩

structure DB where
  top : Int
  bottom : Int
  pl : Value
  count : Int
  hs : Value
def DAt (w : World) (d : Nat) (D : DB) : Prop := w.heap[d]? = some (.cells #[i64 D.top, i64 D.bottom, D.pl, i64 D.count, D.hs] 57 (0, 0))
theorem DAt.kept {w w' : World} {d : Nat} {D : DB} {row : Option Nat} (h : DAt w d D) (hg : w.grownBy w' row) (hr : some d ≠ row) : DAt w' d D := (hg.block d (Array.getElem?_eq_some_iff.1 h).1 hr).trans h
theorem DAt.lt {w : World} {d : Nat} {D : DB} (h : DAt w d D) : d < w.heap.size := (Array.getElem?_eq_some_iff.1 h).1
theorem DAt.set0 {w : World} {d : Nat} {D : DB} (h : DAt w d D) (n : Int) : DAt (w.setCell ⟨d, 0, none⟩ (i64 n)) d { D with top := n } := (heap_setCell_same w d 0 _ _ (i64 n) h).trans rfl
theorem DAt.set1 {w : World} {d : Nat} {D : DB} (h : DAt w d D) (n : Int) : DAt (w.setCell ⟨d, 1, none⟩ (i64 n)) d { D with bottom := n } := (heap_setCell_same w d 1 _ _ (i64 n) h).trans rfl
theorem DAt.set3 {w : World} {d : Nat} {D : DB} (h : DAt w d D) (n : Int) : DAt (w.setCell ⟨d, 3, none⟩ (i64 n)) d { D with count := n } := (heap_setCell_same w d 3 _ _ (i64 n) h).trans rfl
theorem DAt.set4 {w : World} {d : Nat} {D : DB} (h : DAt w d D) (v : Value) : DAt (w.setCell ⟨d, 4, none⟩ v) d { D with hs := v } := (heap_setCell_same w d 4 _ _ v h).trans rfl
abbrev DB.inc (D : DB) : DB := { D with count := wrap64 (D.count + 1) }

set_option maxHeartbeats 1000000 in
theorem readTop_any (d : Nat) (D : DB) (w : World) (h : DAt w d D) :
    Calls Try.prog 50 #[.pointer (some ⟨d, 0, none⟩)] w fun e w' => e = .returned (i64 D.top) ∧ DAt w' d D.inc ∧ w.grownBy w' (some d) := by
  have c0 := cell_of_row w d 0 _ _ _ h
  have c3 := cell_of_row w d 3 _ _ _ h
  have f3 := frozen_of_row w d 3 _ _ h
  simp at c0 c3
  go_enter Try.func50, Try.ntmps50
  go_wp2
  go_ret
  exact ⟨rfl, h.set3 _, grown_set _ _ _⟩

set_option maxHeartbeats 1000000 in
theorem readBottom_any (d : Nat) (D : DB) (w : World) (h : DAt w d D) :
    Calls Try.prog 56 #[.pointer (some ⟨d, 0, none⟩)] w fun e w' => e = .returned (i64 D.bottom) ∧ DAt w' d D.inc ∧ w.grownBy w' (some d) := by
  have c0 := cell_of_row w d 1 _ _ _ h
  have c3 := cell_of_row w d 3 _ _ _ h
  have f3 := frozen_of_row w d 3 _ _ h
  simp at c0 c3
  go_enter Try.func56, Try.ntmps56
  go_wp2
  go_ret
  exact ⟨rfl, h.set3 _, grown_set _ _ _⟩

set_option maxHeartbeats 1000000 in
theorem setBottom_any (d : Nat) (D : DB) (n : Int) (w : World) (h : DAt w d D) :
    Calls Try.prog 53 #[.pointer (some ⟨d, 0, none⟩), i64 n] w fun e w' => e = .returned (.tuple #[]) ∧ DAt w' d { D.inc with bottom := n } ∧ w.grownBy w' (some d) := by
  have c0 := cell_of_row w d 1 _ _ _ h
  have c3 := cell_of_row w d 3 _ _ _ h
  have f0 := frozen_of_row w d 1 _ _ h
  have f3 := frozen_of_row w d 3 _ _ h
  simp at c0 c3
  go_enter Try.func53, Try.ntmps53
  go_wp2
  go_end0
  exact ⟨rfl, (h.set3 _).set1 _, grown_trans (grown_set w ⟨d, 3, none⟩ _) (grown_set _ ⟨d, 1, none⟩ _)⟩

set_option maxHeartbeats 1000000 in
theorem swapTop_yes (d : Nat) (D : DB) (w : World) (h : DAt w d D) :
    Calls Try.prog 55 #[.pointer (some ⟨d, 0, none⟩), i64 D.top] w fun e w' => e = .returned (.bool true) ∧ DAt w' d { D.inc with top := wrap64 (D.top + 1) } ∧ w.grownBy w' (some d) := by
  have c0 := cell_of_row w d 0 _ _ _ h
  have c3 := cell_of_row w d 3 _ _ _ h
  have f0 := frozen_of_row w d 0 _ _ h
  have f3 := frozen_of_row w d 3 _ _ h
  simp at c0 c3
  go_enter Try.func55, Try.ntmps55
  go_wp2
  go_ret
  exact ⟨rfl, (h.set3 _).set0 _, grown_trans (grown_set w ⟨d, 3, none⟩ _) (grown_set _ ⟨d, 0, none⟩ _)⟩
set_option maxHeartbeats 1000000 in
theorem swapTop_no (d : Nat) (D : DB) (n : Int) (w : World) (h : DAt w d D) (hn : ¬ D.top = n) :
    Calls Try.prog 55 #[.pointer (some ⟨d, 0, none⟩), i64 n] w fun e w' => e = .returned (.bool false) ∧ DAt w' d D.inc ∧ w.grownBy w' (some d) := by
  have c0 := cell_of_row w d 0 _ _ _ h
  have c3 := cell_of_row w d 3 _ _ _ h
  have f3 := frozen_of_row w d 3 _ _ h
  simp at c0 c3
  have hb : (D.top != n) = true := by simp [hn]
  clear hn
  go_enter Try.func55, Try.ntmps55
  go_wp2
  go_ret
  exact ⟨rfl, h.set3 _, grown_set _ _ _⟩
theorem swapTop_any (d : Nat) (D : DB) (n : Int) (w : World) (h : DAt w d D) (T : Int) (hT : T = if D.top = n then wrap64 (D.top + 1) else D.top) (b : Bool) (hb : b = decide (D.top = n)) :
    Calls Try.prog 55 #[.pointer (some ⟨d, 0, none⟩), i64 n] w fun e w' => e = .returned (.bool b) ∧ DAt w' d { D.inc with top := T } ∧ w.grownBy w' (some d) := by
  by_cases hn : D.top = n
  · subst hn
    rw [if_pos rfl] at hT
    simp at hb
    subst hT hb
    exact swapTop_yes d D w h
  · rw [if_neg hn] at hT
    simp [hn] at hb
    subst hT hb
    exact swapTop_no d D n w h hn

/-- The row of places: a block of its own. -/
def PAt (w : World) (P : Nat) (pl : List Int) : Prop := w.heap[P]? = some (.cells (pl.map i64).toArray 2 (0, 0))
theorem PAt.kept {w w' : World} {P : Nat} {pl : List Int} {row : Option Nat} (h : PAt w P pl) (hg : w.grownBy w' row) (hr : some P ≠ row) : PAt w' P pl := (hg.block P (Array.getElem?_eq_some_iff.1 h).1 hr).trans h
theorem PAt.cell {w : World} {P : Nat} {pl : List Int} (h : PAt w P pl) (k : Nat) (hk : k < pl.length) : w.cell? ⟨P, k, none⟩ = some (i64 pl[k]) := by
  rw [cell_of_row w P k _ _ _ h]; simp [hk]
theorem PAt.set {w : World} {P : Nat} {pl : List Int} (h : PAt w P pl) (k : Nat) (v : Int) : PAt (w.setCell ⟨P, k, none⟩ (i64 v)) P (pl.set k v) := by
  refine (heap_setCell_same w P k _ _ (i64 v) h).trans ?_
  congr 2
  simp [List.map_set]

set_option maxHeartbeats 1000000 in
theorem place_any (d : Nat) (D : DB) (P c : Nat) (pl : List Int) (n : Int) (w : World) (h : DAt w d D) (hp : D.pl = .slice (some ⟨P, 0, none⟩) pl.length c) (h0 : 0 ≤ n) (hl : 0 < pl.length) (hl2 : pl.length ≤ 256) :
    Calls Try.prog 42 #[.pointer (some ⟨d, 0, none⟩), i64 n] w fun e w' => e = .returned (.pointer (some ⟨P, n.toNat % pl.length, none⟩)) ∧ ∃ q, w' = w.drewN q := by
  have c2 := cell_of_row w d 2 _ _ _ h
  simp only [List.getElem?_toArray, List.getElem?_cons_succ, List.getElem?_cons_zero, hp] at c2
  obtain ⟨m, rfl⟩ : ∃ m : Nat, n = m := ⟨n.toNat, by omega⟩
  go_enter Try.func42, Try.ntmps42
  have hr : m % pl.length < pl.length := Nat.mod_lt _ hl
  have he : (m : Int).tmod (pl.length : Int) = ((m % pl.length : Nat) : Int) := rfl
  rw [Int.toNat_natCast]
  generalize m % pl.length = r at *
  have hn0 : ¬ (pl.length : Int) = 0 := by omega
  have hn1 : ((pl.length : Int) == 0) = false := by rw [beq_eq_false_iff_ne]; omega
  have hrI : (r : Int) < pl.length := by omega
  clear hp
  go_wp2
  go_quiet (fail)
  go_wp2
  go_ret
  exact ⟨rfl, _, rfl⟩

/-- Where the value of a number stands. -/
def slot (pl : List Int) (n : Int) : Nat := n.toNat % pl.length
def getP (pl : List Int) (n : Int) : Int := pl.getD (slot pl n) 0
def putP (pl : List Int) (n v : Int) : List Int := pl.set (slot pl n) v
theorem slot_lt (pl : List Int) (n : Int) (hl : 0 < pl.length) : slot pl n < pl.length := Nat.mod_lt _ hl

set_option maxHeartbeats 1000000 in
theorem get_any (d : Nat) (D : DB) (P c : Nat) (pl : List Int) (n : Int) (w : World) (h : DAt w d D) (hP : PAt w P pl) (hne : d ≠ P) (hp : D.pl = .slice (some ⟨P, 0, none⟩) pl.length c) (h0 : 0 ≤ n) (hl : 0 < pl.length) (hl2 : pl.length ≤ 256) :
    Calls Try.prog 54 #[.pointer (some ⟨d, 0, none⟩), i64 n] w fun e w' => e = .returned (i64 (getP pl n)) ∧ DAt w' d D.inc ∧ w.grownBy w' (some d) := by
  have c3 := cell_of_row w d 3 _ _ _ h
  have f3 := frozen_of_row w d 3 _ _ h
  simp at c3
  have hs := slot_lt pl n hl
  have hPL := hid (place_any d D.inc P c pl n _ (h.set3 _) hp h0 hl hl2)
  have HX : Hid (pl[slot pl n] = getP pl n) := by simp [Hid, getP, List.getD_eq_getElem?_getD, hs]
  have cP := ((hP.kept (grown_set w ⟨d, 3, none⟩ (i64 (wrap64 (D.count + 1)))) (by intro e; cases e; exact hne rfl)).cell (slot pl n) hs)
  rw [HX.out] at cP
  have HD := hid (h.set3 (wrap64 (D.count + 1)))
  change Hid (Calls Try.prog 42 _ _ fun e w' => e = .returned (.pointer (some ⟨P, slot pl n, none⟩)) ∧ _) at hPL
  generalize getP pl n = gv at *
  generalize slot pl n = sl at *
  clear h hP hp HX
  go_enter Try.func54, Try.ntmps54
  go_wp2_with (go_at_call 42; refine (hPL.out).mono ?_; rintro e w2 ⟨rfl, q, rfl⟩)
  go_ret
  exact ⟨rfl, HD.out, grown_drewN (grown_set w ⟨d, 3, none⟩ _) _⟩

set_option maxHeartbeats 1000000 in
theorem put_any (d : Nat) (D : DB) (P c : Nat) (pl : List Int) (n v : Int) (w : World) (h : DAt w d D) (hP : PAt w P pl) (hne : d ≠ P) (hp : D.pl = .slice (some ⟨P, 0, none⟩) pl.length c) (h0 : 0 ≤ n) (hl : 0 < pl.length) (hl2 : pl.length ≤ 256) :
    Calls Try.prog 52 #[.pointer (some ⟨d, 0, none⟩), i64 n, i64 v] w fun e w' => e = .returned (.tuple #[]) ∧ DAt w' d D.inc ∧ PAt w' P (putP pl n v) ∧ Only [some d, some P] w w' := by
  have c3 := cell_of_row w d 3 _ _ _ h
  have f3 := frozen_of_row w d 3 _ _ h
  simp at c3
  have hs := slot_lt pl n hl
  have hPL := hid (place_any d D.inc P c pl n _ (h.set3 _) hp h0 hl hl2)
  have hP2 := hP.kept (grown_set w ⟨d, 3, none⟩ (i64 (wrap64 (D.count + 1)))) (by intro e; cases e; exact hne rfl)
  have cP := hP2.cell (slot pl n) hs
  have fP := frozen_of_row _ P (slot pl n) _ _ hP2
  have HD := hid (h.set3 (wrap64 (D.count + 1)))
  have HP := hid hP2
  have HE : Hid (putP pl n v = pl.set (slot pl n) v) := rfl
  change Hid (Calls Try.prog 42 _ _ fun e w' => e = .returned (.pointer (some ⟨P, slot pl n, none⟩)) ∧ _) at hPL
  generalize pl[slot pl n] = x at *
  generalize slot pl n = sl at *
  clear h hP hp hP2
  go_enter Try.func52, Try.ntmps52
  go_wp2_with (go_at_call 42; refine (hPL.out).mono ?_; rintro e w2 ⟨rfl, q, rfl⟩)
  go_end0
  refine ⟨rfl, ?_, ?_, ?_⟩
  · exact DAt.kept (w := (w.setCell ⟨d, 3, none⟩ (i64 (wrap64 (D.count + 1)))).drewN q) HD.out (grown_set _ ⟨P, sl, none⟩ _) (fun e => hne (Option.some.inj e))
  · rw [HE.out]; exact PAt.set (w := (w.setCell ⟨d, 3, none⟩ (i64 (wrap64 (D.count + 1)))).drewN q) HP.out sl v
  · exact ((((Only.refl w).less (B := [some d, some P]) (fun _ _ h => by cases h)).set ⟨d, 3, none⟩ _ (.inl (by simp))).drewN q).set ⟨P, sl, none⟩ _ (.inl (by simp))

/-- A hand's block. -/
structure HB where
  wv : Value
  sv : Value
  at_ : Int
  t : Int
  b : Int
  v : Int
  won : Bool
def HAt (w : World) (h : Nat) (H : HB) : Prop := w.heap[h]? = some (.cells #[H.wv, H.sv, i64 H.at_, i64 H.t, i64 H.b, i64 H.v, .bool H.won] 66 (0, 0))
theorem HAt.kept {w w' : World} {h : Nat} {H : HB} {row : Option Nat} (hh : HAt w h H) (hg : w.grownBy w' row) (hr : some h ≠ row) : HAt w' h H := (hg.block h (Array.getElem?_eq_some_iff.1 hh).1 hr).trans hh
theorem HAt.lt {w : World} {h : Nat} {H : HB} (hh : HAt w h H) : h < w.heap.size := (Array.getElem?_eq_some_iff.1 hh).1
theorem HAt.set1 {w : World} {h : Nat} {H : HB} (hh : HAt w h H) (v : Value) : HAt (w.setCell ⟨h, 1, none⟩ v) h { H with sv := v } := (heap_setCell_same w h 1 _ _ v hh).trans rfl
theorem HAt.set2 {w : World} {h : Nat} {H : HB} (hh : HAt w h H) (n : Int) : HAt (w.setCell ⟨h, 2, none⟩ (i64 n)) h { H with at_ := n } := (heap_setCell_same w h 2 _ _ (i64 n) hh).trans rfl
theorem HAt.set3 {w : World} {h : Nat} {H : HB} (hh : HAt w h H) (n : Int) : HAt (w.setCell ⟨h, 3, none⟩ (i64 n)) h { H with t := n } := (heap_setCell_same w h 3 _ _ (i64 n) hh).trans rfl
theorem HAt.set4 {w : World} {h : Nat} {H : HB} (hh : HAt w h H) (n : Int) : HAt (w.setCell ⟨h, 4, none⟩ (i64 n)) h { H with b := n } := (heap_setCell_same w h 4 _ _ (i64 n) hh).trans rfl
theorem HAt.set5 {w : World} {h : Nat} {H : HB} (hh : HAt w h H) (n : Int) : HAt (w.setCell ⟨h, 5, none⟩ (i64 n)) h { H with v := n } := (heap_setCell_same w h 5 _ _ (i64 n) hh).trans rfl
theorem HAt.set6 {w : World} {h : Nat} {H : HB} (hh : HAt w h H) (n : Bool) : HAt (w.setCell ⟨h, 6, none⟩ (.bool n)) h { H with won := n } := (heap_setCell_same w h 6 _ _ (.bool n) hh).trans rfl

def ansCells (l : List (Bool × Int)) : List Value := l.flatMap (fun a => [.bool a.1, i64 a.2])
theorem ansCells_len (l : List (Bool × Int)) : (ansCells l).length = 2 * l.length := by
  induction l with
  | nil => rfl
  | cons r l ih => simp only [ansCells, List.flatMap_cons] at ih ⊢; rw [List.length_append, ih]; simp; omega
theorem ansCells_snoc (l : List (Bool × Int)) (a : Bool × Int) : ansCells (l ++ [a]) = ansCells l ++ [.bool a.1, i64 a.2] := by simp [ansCells]
theorem E37 : Elem Try.prog 37 40 2 16 (.agg #[.bool false, .int .i64 0]) := Elem.mk' Try.underlying37 (by kernel_rfl) rfl (by decide)
theorem own_typeA {W : World} {base : Nat} {e : TypeId} {size : Nat} {v : Value} {k : Nat} {xs : List Value} (h : W.ownsRow base e size v k xs) (g : Nat) (hg : v.ownBlock = some g) : ∃ cur, W.heap[g]? = some (.cells cur e (0, 0)) := by
  rcases h.2 with ⟨rfl, _⟩ | ⟨g', cap, cur, rfl, _, hgb, _⟩
  · cases hg
  · cases hg; exact ⟨cur, hgb⟩

theorem hnb {w : World} {h : Nat} {H : HB} {base n : Nat} {xs : List Value} (v : Value) (ho : w.ownsRow base 40 2 v n xs) (hh : HAt w h H) : ∀ g, v.ownBlock = some g → g ≠ h := fun g hg e => by
  obtain ⟨cur, hc⟩ := own_typeA ho g hg
  subst e
  rw [hh] at hc; cases hc
set_option maxHeartbeats 1000000 in
theorem says_any (h : Nat) (H : HB) (base : Nat) (l : List (Bool × Int)) (ok : Bool) (v : Int) (w : World) (hh : HAt w h H) (ho : w.ownsRow base 40 2 H.sv l.length (ansCells l)) (hb : base ≤ w.heap.size) (hl : l.length ≤ 1000000) (v2 : Int) (hv : v2 = if ok then v else 0) :
    Calls Try.prog 51 #[.pointer (some ⟨h, 0, none⟩), .bool ok, i64 v] w fun e w' => e = .returned (.tuple #[]) ∧ ∃ sv, HAt w' h { H with sv := sv, at_ := 0 } ∧ w'.ownsRow base 40 2 sv (l.length + 1) (ansCells (l ++ [(ok, v2)])) ∧ Only [some h, H.sv.ownBlock] w w' ∧ Stayed w H.sv sv := by
  obtain ⟨sp, sc, hsv, hsc, _, _, _, _⟩ := own_row ho
  obtain ⟨wv, sv, at_, t, b, v0, won⟩ := H
  dsimp only at hsv ho ⊢
  subst hsv
  have c1 := cell_of_row w h 1 _ _ _ hh
  have c2 := cell_of_row w h 2 _ _ _ hh
  have f1 := frozen_of_row w h 1 _ _ hh
  have f2 := frozen_of_row w h 2 _ _ hh
  simp at c1 c2
  have hlt := hh.lt
  have HH := hid hh
  have hne : some h ≠ (Value.slice sp l.length sc).ownBlock := fun e => by
    obtain ⟨cur, hc⟩ := own_typeA ho h e.symm
    rw [hh] at hc; cases hc
  clear hh
  have HV : Hid (ok = ok) := rfl
  cases ok
  all_goals (
    simp only [if_true, Bool.false_eq_true, if_false] at hv
    subst hv
    go_enter Try.func51, Try.ntmps51
    go_wp2_with ((with_reducible show wpList _ _ _ (⟨some 17, _, _, _, _, _⟩ :: _) _ _); go_loud (refine wpList_app E37 rfl _ _ rfl base _ _ _ rfl (ho.alloc _) _ 1 1 [.bool _, i64 _] rfl rfl (by simp) (row_new _ _ _) (by simp [Value.oneCell']) (by unfold maxLen; omega) (by omega) (by simp; omega) ?_); intro v3 w3 ho3 hg3 hs3; have HO3 := hid ho3; have HS3 := hid hs3; obtain ⟨sp3, sc3, rfl, _⟩ := own_row ho3; have hh3 := HAt.kept (HAt.kept (row := none) HH.out (World.grownBy_alloc w _ none) (by simp)) hg3 hne; have d1 := cell_of_row w3 h 1 _ _ _ hh3; have d2 := cell_of_row w3 h 2 _ _ _ hh3; have g1 := frozen_of_row w3 h 1 _ _ hh3; have g2 := frozen_of_row w3 h 2 _ _ hh3; simp at d1 d2; have HH3 := hid hh3; clear hh3)
    go_end0
    refine ⟨rfl, .slice sp3 (l.length + 1) sc3, (HH3.out.set1 _).set2 0, ?_, ?_, ?_⟩
    · rw [ansCells_snoc]
      exact own_setO (own_setO HO3.out ⟨h, 1, none⟩ _ (hnb _ HO3.out HH3.out)) ⟨h, 2, none⟩ _ (hnb _ HO3.out HH3.out)
    · have o1 : Only [some h, (Value.slice sp l.length sc).ownBlock] w w3 := ((((Only.refl w).alloc _).trans (Only.grown hg3)).less (fun k hk hm => by simp at hm ⊢; exact .inr hm))
      exact (o1.set ⟨h, 1, none⟩ _ (.inl (by simp))).set ⟨h, 2, none⟩ _ (.inl (by simp))
    · intro g hg
      rcases HS3.out g hg with h | h
      · exact .inl h
      · exact .inr (by simp at h; omega))
end Go.Proofs.Ytpgdpddmgljpmaa
