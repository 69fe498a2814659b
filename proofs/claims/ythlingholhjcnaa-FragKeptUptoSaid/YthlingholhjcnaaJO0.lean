/-
  Words and laws for the walks of this seat, over any program: rows of cells that a slice reads, append onto a row of the call's own from any row, maps as lists of pairs.
  What comes in, opened: slices of strings and of integers as rows of cells.
  What comes in, opened: slices of any elements of a set number of cells, as rows of cells.
  What comes in, opened type by type: each type's cells as those of a value of its own.
  Rows, lines and units as they come in (printed by genopen.py).
  Owned rows whose elements are stored into; owned rows that a call leaves as they lay.
  Append as one step of a region that draws its order.
  Frag: units in plain words, and as they lie in memory of their own.
  The cells of an element of a row (printed by gencells.py).
  The kind of a section's name, and how many bytes a relocation changes: both walks of each.
  Which lines are branches that may have to be two: both walks.
-/
import Derived.WalkKit
import Derived.Maps.OwnOps
import Derived.Lib.AppendStr
import Derived.Laws.AppendOwnNone
import Derived.Deep.QuietTactic
import Derived.BigQuiet
import Derived.WalkSmall
import Derived.ProofKit
import Derived.OpenShut
import Derived.ShutString
import Derived.ChangeOld
import Derived.SizedLaws
import Derived.SliceStrings
import Derived.Deep.Grids
import Derived.Deep.RegionLaw
import Derived.Test.YthlingholhjcnaaProg
import Derived.Test.YthlingholhjcnaaShelf
import Derived.WalkLawsBesides
import Derived.WalkSpells
import Derived.IntWalk
import Derived.Lib.IndexBytes
import Derived.OwnWalk
import Derived.Deep.DeepCutAuto
import Derived.Deep.RegionHeld3
namespace Go.Proofs.Ythlingholhjcnaa
open Go.RowKit
open Go.ChangeMaps (setBlock heap_setBlock_same heap_setBlock_other)

theorem hid {p : Prop} (h : p) : Hid p := h
theorem ret_bool {a b : Bool} (h : a = b) : Ending.returned (.bool a) = Ending.returned (.bool b) := by rw [h]
theorem ret_int {k : IntKind} {a b : Int} (h : a = b) : Ending.returned (.int k a) = Ending.returned (.int k b) := by rw [h]
theorem take_succ {α : Type} (xs : List α) (k : Nat) (hk : k < xs.length) : xs.take (k + 1) = xs.take k ++ [xs[k]] := by
  rw [List.take_add_one, List.getElem?_eq_getElem hk]; simp

/-- The cells cs lie at p (if there are any). -/
def Row (w : World) (p : Option Addr) (cs : List Value) : Prop :=
  cs ≠ [] → ∃ b o, p = some ⟨b, o, none⟩ ∧ ∀ i (h : i < cs.length), w.cell? ⟨b, o + i, none⟩ = some cs[i]

theorem Row.nil (w : World) (p : Option Addr) : Row w p [] := fun h => absurd rfl h

theorem Row.at {w : World} {p : Option Addr} {cs : List Value} (h : Row w p cs) (hp : 0 < cs.length) :
    ∃ b o, p = some ⟨b, o, none⟩ ∧ b < w.heap.size ∧ ∀ i (h : i < cs.length), w.cell? ⟨b, o + i, none⟩ = some cs[i] := by
  obtain ⟨b, o, rfl, hc⟩ := h (by intro e; rw [e] at hp; simp at hp)
  exact ⟨b, o, rfl, World.block_lt_of_cell? w _ (hc 0 hp), hc⟩

theorem Row.below {W w : World} {p : Option Addr} {cs : List Value} (h : Row W p cs) (hb : Below W.heap.size W w) : Row w p cs := by
  intro hne
  obtain ⟨b, o, rfl, hc⟩ := h hne
  refine ⟨b, o, rfl, fun i hi => ?_⟩
  have hlt := World.block_lt_of_cell? W _ (hc i hi)
  rw [hb.cell (p := ⟨b, o + i, none⟩) hlt]
  exact hc i hi

theorem Row.kept {w w' : World} {p : Option Addr} {cs : List Value} {row : Option Nat} (h : Row w p cs) (hg : w.grownBy w' row) (hr : ∀ a, p = some a → some a.block ≠ row) : Row w' p cs := by
  intro hne
  obtain ⟨b, o, rfl, hc⟩ := h hne
  exact ⟨b, o, rfl, fun i hi => hg.cell (hc i hi) (hr ⟨b, o, none⟩ rfl)⟩

theorem Row.alloc {w : World} {p : Option Addr} {cs : List Value} (h : Row w p cs) (o : Obj) : Row (w.alloc o) p cs :=
  h.kept (World.grownBy_alloc w o none) (by simp)

theorem Row.drewN {w : World} {p : Option Addr} {cs : List Value} (h : Row w p cs) (q : Nat) : Row (w.drewN q) p cs := h
theorem own_drewN {w : World} {base : Nat} {e : TypeId} {size : Nat} {v : Value} {n : Nat} {xs : List Value} (h : w.ownsRow base e size v n xs) (q : Nat) : (w.drewN q).ownsRow base e size v n xs := h

/-- A part of a row is a row. -/
theorem Row.take {w : World} {p : Option Addr} {cs : List Value} (h : Row w p cs) (k : Nat) : Row w p (cs.take k) := by
  intro hne
  obtain ⟨b, o, rfl, hc⟩ := h (by intro e; rw [e] at hne; simp at hne)
  refine ⟨b, o, rfl, fun i hi => ?_⟩
  have hi' : i < cs.length := by simp at hi; omega
  rw [List.getElem_take]
  exact hc i hi'

theorem Row.cell {w : World} {b o : Nat} {cs : List Value} (h : Row w (some ⟨b, o, none⟩) cs) (i : Nat) (hi : i < cs.length) : w.cell? ⟨b, o + i, none⟩ = some cs[i] := by
  obtain ⟨b', o', e, hc⟩ := h (by intro e; rw [e] at hi; simp at hi)
  cases e
  exact hc i hi

theorem addr_add (b o i : Nat) : (⟨b, o, none⟩ : Addr).add i = ⟨b, o + i, none⟩ := Addr.add_lit _ _ _

/-- What is owned lies where its value says. -/
theorem own_row {w : World} {base : Nat} {e : TypeId} {size : Nat} {v : Value} {n : Nat} {xs : List Value} (h : w.ownsRow base e size v n xs) :
    ∃ p c, v = .slice p n c ∧ n ≤ c ∧ c ≤ maxLen ∧ Row w p xs ∧ (p = none → n = 0) ∧ (∀ a, p = some a → base ≤ a.block) := by
  rcases h.2 with ⟨rfl, rfl⟩ | ⟨g, cap, cur, rfl, hb, hg, hnc, hcm, hcs, htake⟩
  · have : xs = [] := List.eq_nil_of_length_eq_zero (by simpa using h.1)
    subst this
    exact ⟨none, 0, rfl, Nat.le_refl _, Nat.zero_le _, Row.nil _ _, fun _ => rfl, by simp⟩
  · refine ⟨some ⟨g, 0, none⟩, cap, rfl, hnc, hcm, ?_, by simp, by simpa using hb⟩
    intro _
    refine ⟨g, 0, rfl, fun i hi => ?_⟩
    have := h.cells (g := g) rfl i xs[i] (by simp [hi])
    rwa [addr_add] at this

theorem own_shape {w : World} {base : Nat} {e : TypeId} {size : Nat} {v : Value} {n : Nat} {xs : List Value} (h : w.ownsRow base e size v n xs) : ∃ p c, v = .slice p n c ∧ Row w p xs := by
  obtain ⟨p, c, e1, _, _, hr, _⟩ := own_row h
  exact ⟨p, c, e1, hr⟩

theorem row_new (w : World) (cs : List Value) (e : TypeId) : Row (w.alloc (.cells cs.toArray e)) (some ⟨w.heap.size, 0, none⟩) cs := by
  intro _
  refine ⟨w.heap.size, 0, rfl, fun i hi => ?_⟩
  rw [cell_of_row (w.alloc (.cells cs.toArray e)) w.heap.size (0 + i) cs.toArray e (0, 0) (heap_alloc_new w _)]
  simp [hi]

theorem row_newAt (w : World) (cs : List Value) (e : TypeId) (n : Nat) (hn : n = w.heap.size) : Row (w.alloc (.cells cs.toArray e)) (some ⟨n, 0, none⟩) cs := by
  subst hn; exact row_new w cs e

theorem own_new (w : World) (cs : List Value) (e : TypeId) (base n size : Nat) (hb : base ≤ w.heap.size) (hn : cs.length = n * size) (hm : n ≤ maxLen) :
    (w.alloc (.cells cs.toArray e)).ownsRow base e size (.slice (some ⟨w.heap.size, 0, none⟩) n n) n cs :=
  ⟨hn, .inr ⟨w.heap.size, n, cs.toArray, rfl, hb, heap_alloc_new w _, Nat.le_refl _, hm, by simp [hn], by simp [← hn]⟩⟩

/-- The slice type t, its elements' type e, of so many cells and bytes, and what an element begins as. -/
structure Elem (P : Program) (t e : TypeId) (size bytes : Nat) (z : Value) : Prop where
  desc : P.underlying t = some (.slice e)
  info : ∃ i, P.info? e = some i ∧ i.zero = some z ∧ i.size = size ∧ i.bytes = bytes
  cells : z.cells.size = size
  pos : 0 < size

theorem Elem.mk' {P : Program} {t e : TypeId} {z : Value} {size bytes : Nat} (h1 : P.underlying t = some (.slice e)) (h2 : (P.info? e).map (fun i => (i.zero, i.size, i.bytes)) = some (some z, size, bytes)) (h3 : z.cells.size = size) (h4 : 0 < size) : Elem P t e size bytes z :=
  ⟨h1, info_parts h2, h3, h4⟩

/-- Behind an append the value lies where it lay, or in a new block. -/
def Stayed (w : World) (v v' : Value) : Prop := ∀ g, v'.ownBlock = some g → v.ownBlock = some g ∨ w.heap.size ≤ g

theorem stayed_of_ok {P : Program} {w : World} {s : Sem Value} {v v1 v' : Value} {w1 w' : World} (h : s.run P w = .ok v1 w1) (h' : s.run P w = .ok v' w') (hs : Stayed w v v1) : Stayed w v v' := by
  rw [h] at h'
  cases h'
  exact hs

theorem stayed_new (w : World) (v : Value) (n c : Nat) : Stayed w v (.slice (some ⟨w.heap.size, 0, none⟩) n c) := by
  intro g hg
  simp [Value.ownBlock] at hg
  exact .inr (by omega)

/-- Two values own no block together. -/
def Apart (v u : Value) : Prop := ∀ g, v.ownBlock = some g → u.ownBlock ≠ some g
theorem Apart.symm {v u : Value} (h : Apart v u) : Apart u v := fun g hg hv => h g hv hg
theorem Apart.stayed {w : World} {v v' u : Value} (h : Apart v u) (hs : Stayed w v v') (hu : ∀ g, u.ownBlock = some g → g < w.heap.size) : Apart v' u := by
  intro g hg hug
  rcases hs g hg with h1 | h1
  · exact h g h1 hug
  · have := hu g hug; omega
theorem ne_stayed {w : World} {v v' : Value} {b : Nat} (hs : Stayed w v v') (h : v.ownBlock ≠ some b) (hlt : b < w.heap.size) : v'.ownBlock ≠ some b := by
  intro e
  rcases hs _ e with h1 | h1
  · exact h h1
  · omega
theorem Apart.nil (v : Value) : Apart (.slice none 0 0) v := fun g hg => by simp [Value.ownBlock] at hg
theorem own_lt {w : World} {base : Nat} {e : TypeId} {size : Nat} {v : Value} {n : Nat} {xs : List Value} (h : w.ownsRow base e size v n xs) : ∀ g, v.ownBlock = some g → g < w.heap.size := fun g hg => (h.lt g hg).2
theorem own_ge {w : World} {base : Nat} {e : TypeId} {size : Nat} {v : Value} {n : Nat} {xs : List Value} (h : w.ownsRow base e size v n xs) : ∀ g, v.ownBlock = some g → base ≤ g := fun g hg => (h.lt g hg).1
theorem own_kept {w w' : World} {base : Nat} {e : TypeId} {size : Nat} {v u : Value} {n : Nat} {xs : List Value} (h : w.ownsRow base e size v n xs) (hg : w.grownBy w' u.ownBlock) (ha : Apart v u) : w'.ownsRow base e size v n xs := by
  refine h.kept hg ?_
  cases hv : v.ownBlock with
  | none => exact .inl rfl
  | some g => exact .inr (fun e => ha g hv e.symm)

section
variable {P : Program} {w : World} {t e : TypeId} {size bytes : Nat} {z : Value}

theorem app_stayed (E : Elem P t e size bytes z) (ty : TypeId) (base : Nat) (v : Value) (n : Nat) (xs : List Value) (hown : w.ownsRow base e size v n xs)
    (a : Addr) (m c : Nat) (news : List Value) (hl : news.length = m * size) (hnews : ∀ j u, news[j]? = some u → w.cell? (a.add j) = some u) (h1 : ∀ u ∈ news, u.oneCell' = true)
    (h63 : n + m ≤ maxLen) (hbytes : (n + m) * bytes ≤ 140737488355328) {v' : Value} {w' : World} (hr : (Builtin.append_ #[t, t] ty #[v, .slice (some a) m c]).run P w = .ok v' w') : Stayed w v v' := by
  obtain ⟨i, hi, hz, hsz, hby⟩ := E.info
  subst hsz
  subst hby
  have hsmall : n + m ≤ 9223372036854775807 := by simp only [maxLen] at h63; omega
  rcases hown.2 with ⟨rfl, rfl⟩ | ⟨g, cap, cur, rfl, hbg, hg, hnc, hcm, hcs, htake⟩
  · by_cases hm : m = 0
    · subst hm
      have hn : news = [] := List.eq_nil_of_length_eq_zero (by simpa using hl)
      subst hn
      refine stayed_of_ok (w1 := w) (v1 := .slice none 0 0) ?_ hr (fun g hg => .inl hg)
      simp [Builtin.append_, run_underlying E.desc, sizeOf, typeInfo, hi, Builtin.lenOf, Builtin.firstCells, loadCells, loadCellsFrom]
    · exact stayed_of_ok (run_append_nil (P := P) w t ty e i z E.desc hi hz a m c news hl hnews (by omega) (by omega) (by have hb := hbytes; simp only [Nat.zero_add] at hb; omega)) hr (stayed_new _ _ _ _)
  · by_cases hroom : n + m ≤ cap
    · have hfit : n * i.size + news.length ≤ cur.size := by rw [hl, hcs, ← Nat.add_mul]; exact Nat.mul_le_mul_right _ hroom
      exact stayed_of_ok (run_append_room (P := P) w t ty e i E.desc hi g n cap cur hg a m c news hl hnews h1 hroom hfit) hr (fun g' hg' => .inl hg')
    · have holds : ∀ j u, xs[j]? = some u → w.cell? ((⟨g, 0, none⟩ : Addr).add j) = some u := hown.cells (g := g) rfl
      exact stayed_of_ok (run_append_grow (P := P) w t ty e i z E.desc hi hz ⟨g, 0, none⟩ n cap xs hown.1 holds a m c news hl hnews (by omega) (by omega) (growslice_fits (by omega) hbytes)) hr (stayed_new _ _ _ _)

theorem app_stayed_string (E : Elem P t e 1 1 (.int .u8 0)) {u : TypeId} (hu : P.underlying u = some .string) (ty : TypeId) (base : Nat) (v : Value) (n : Nat) (xs : List Value) (hown : w.ownsRow base e 1 v n xs) (s : ByteArray)
    (h63 : n + s.size ≤ maxLen) (hbytes : n + s.size ≤ 140737488355328) {v' : Value} {w' : World} (hr : (Builtin.append_ #[t, u] ty #[v, .string s]).run P w = .ok v' w') : Stayed w v v' := by
  obtain ⟨i, hi, hz, hsz, hby⟩ := E.info
  have hsmall : n + s.size ≤ 9223372036854775807 := by simp only [maxLen] at h63; omega
  have hxl : xs.length = n := by simpa using hown.1
  rcases hown.2 with ⟨rfl, rfl⟩ | ⟨g, cap, cur, rfl, hbg, hg, hnc, hcm, hcs, htake⟩
  · by_cases hm : s.size = 0
    · refine stayed_of_ok (w1 := w) (v1 := .slice none 0 0) ?_ hr (fun g hg => .inl hg)
      have hf := Lib.run_firstCells_string (P := P) w 1 s
      have hn : Lib.strCells s = [] := List.eq_nil_of_length_eq_zero (by rw [Lib.strCells_length]; exact hm)
      rw [hm] at hf
      simp [Builtin.append_, run_underlying E.desc, run_underlying hu, sizeOf, typeInfo, hi, hsz, Builtin.lenOf, hm, hf]
    · exact stayed_of_ok (run_append_nil_string (P := P) w t u ty e i (.int .u8 0) E.desc hu hi hz s (by omega) (by omega) (by rw [hby]; omega)) hr (stayed_new _ _ _ _)
  · by_cases hroom : n + s.size ≤ cap
    · have hcs' : cur.size = cap := by simpa using hcs
      exact stayed_of_ok (Lib.run_append_room_string (P := P) w t u ty e i E.desc hu hi hsz g n cap cur hg s hroom (by omega)) hr (fun g' hg' => .inl hg')
    · have holds : ∀ j u, xs[j]? = some u → w.cell? ((⟨g, 0, none⟩ : Addr).add j) = some u := hown.cells (g := g) rfl
      exact stayed_of_ok (Lib.run_append_grow_string (P := P) w t u ty e i (.int .u8 0) E.desc hu hi hz ⟨g, 0, none⟩ n cap xs (by rw [hsz]; simpa using hxl) holds s (by omega) (by omega) (by rw [hby]; exact growslice_fits (by omega) (by omega))) hr (stayed_new _ _ _ _)

variable {ops : Array Oper} {rest : List Oper} {o : Oper} {a : Act} {Q : Exit → Act → World → Prop}

/-- 'append(v, x...)' at the operation, for the walk: v the call's own, x any row. -/
theorem wpList_app (E : Elem P t e size bytes z) (hgd : o.guard = none) (s x : Operand)
    (ho : o.op = .call { callee := .builtin .append, args := #[s, x], argTypes := #[t, t] })
    (base : Nat) (v : Value) (n : Nat) (xs : List Value) (hs : a.eval s = v) (hown : w.ownsRow base e size v n xs)
    (p : Option Addr) (m c : Nat) (news : List Value) (hx : a.eval x = .slice p m c) (hl : news.length = m * size) (hnil : p = none → c = 0) (hrow : Row w p news) (h1 : ∀ u ∈ news, u.oneCell' = true)
    (h63 : n + m ≤ maxLen) (hbytes : (n + m) * bytes ≤ 140737488355328) (hbase : base ≤ w.heap.size)
    (h : ∀ v' w', w'.ownsRow base e size v' (n + m) (xs ++ news) → w.grownBy w' v.ownBlock → Stayed w v v' → wpList P ops Q rest (a.put o.dst v') w') : wpList P ops Q (o :: rest) a w := by
  obtain ⟨i, hi, hz, hsz, hby⟩ := E.info
  cases p with
  | none =>
    have hc : c = 0 := hnil rfl
    subst hc
    have hn : news = [] := by
      apply Classical.byContradiction
      intro hne
      obtain ⟨b, o, e1, _⟩ := hrow hne
      cases e1
    subst hn
    have hm : m = 0 := by
      have := E.pos
      have hl' : 0 = m * size := hl
      rcases Nat.mul_eq_zero.1 hl'.symm with h0 | h0
      · exact h0
      · omega
    subst hm
    refine wpList_append_own_none hgd s x t ho base e i size E.desc hi v n xs hs hown hx (h v w (by simpa using hown) (World.grownBy.refl _ _) (fun g hg => .inl hg))
  | some ad =>
    have hnews : ∀ j u, news[j]? = some u → w.cell? (ad.add j) = some u := by
      intro j u hj
      have hjl : j < news.length := (List.getElem?_eq_some_iff.1 hj).1
      obtain ⟨b, o, e1, hc⟩ := hrow (by intro e1; rw [e1] at hjl; simp at hjl)
      cases e1
      rw [addr_add, hc j hjl]
      rw [List.getElem?_eq_getElem hjl] at hj
      exact hj
    refine wpList_plain hgd fun K hK => ?_
    obtain ⟨v', w', hr, h2, h3, _⟩ := run_append_own (P := P) w base t o.type e i z size bytes E.desc hi hz hsz hby E.cells E.pos v n xs hown ad m c news hl hnews h1 h63 hbytes hbase
    have h4 := app_stayed E o.type base v n xs hown ad m c news hl hnews h1 h63 hbytes hr
    unfold Oper.wp execOp
    simp only [ho, resolve, invoke, builtin, Sem.run_bind, Sem.run_pure, Result.andThen_ok, List.map_toArray, List.map_cons, List.map_nil, hs, hx, hr]
    exact hK _ _ (h v' w' h2 h3 h4)

/-- 'append(v, s...)', s a string. -/
theorem wpList_app_string (E : Elem P t e 1 1 (.int .u8 0)) {u : TypeId} (hu : P.underlying u = some .string) (hgd : o.guard = none) (sl x : Operand)
    (ho : o.op = .call { callee := .builtin .append, args := #[sl, x], argTypes := #[t, u] })
    (base : Nat) (v : Value) (n : Nat) (xs : List Value) (hs : a.eval sl = v) (hown : w.ownsRow base e 1 v n xs) (s : ByteArray) (hx : a.eval x = .string s)
    (h63 : n + s.size ≤ maxLen) (hbytes : n + s.size ≤ 140737488355328) (hbase : base ≤ w.heap.size)
    (h : ∀ v' w', w'.ownsRow base e 1 v' (n + s.size) (xs ++ Lib.strCells s) → w.grownBy w' v.ownBlock → Stayed w v v' → wpList P ops Q rest (a.put o.dst v') w') : wpList P ops Q (o :: rest) a w := by
  obtain ⟨i, hi, hz, hsz, hby⟩ := E.info
  refine wpList_plain hgd fun K hK => ?_
  obtain ⟨v', w', hr, h2, h3, _⟩ := Lib.run_append_own_string (P := P) w base t u o.type e i E.desc hu hi hz hsz hby v n xs hown s h63 hbytes hbase
  have h4 := app_stayed_string E hu o.type base v n xs hown s h63 hbytes hr
  unfold Oper.wp execOp
  simp only [ho, resolve, invoke, builtin, Sem.run_bind, Sem.run_pure, Result.andThen_ok, List.map_toArray, List.map_cons, List.map_nil, hs, hx, hr]
  exact hK _ _ (h v' w' h2 h3 h4)
end

section
variable {P : Program} {w : World} {t e : TypeId} {size bytes : Nat} {z : Value} {ops : Array Oper} {rest : List Oper} {o : Oper} {a : Act} {Q : Exit → Act → World → Prop}

/-- 'make([]T, 0, n)' at the operation. -/
theorem wpList_mk (E : Elem P t e size bytes z) (hgd : o.guard = none) (l c : Operand) (ho : o.op = .makeSlice t l c) (base : Nat) (kl kc : IntKind) (C : Int) (n : Nat) (hl : a.eval l = .int kl 0) (hc : a.eval c = .int kc C) (hC : C = (n : Int))
    (hb : bytes * n ≤ 281474976710656) (hm : n ≤ maxLen) (hbase : base ≤ w.heap.size)
    (h : ∀ w', w'.ownsRow base e size (.slice (some ⟨w.heap.size, 0, none⟩) 0 n) 0 [] → w.grownBy w' none → wpList P ops Q rest (a.put o.dst (.slice (some ⟨w.heap.size, 0, none⟩) 0 n)) w') : wpList P ops Q (o :: rest) a w := by
  obtain ⟨i, hi, hz, hsz, hby⟩ := E.info
  exact wpList_make_own w hgd l c t ho base e i z size E.desc hi hz hsz kl kc C n hl hc hC (by rw [hby]; exact hb) hm hbase h

/-- 'make([]T, n)' at the operation. -/
theorem wpList_mkfull (E : Elem P t e size bytes z) (hgd : o.guard = none) (l c : Operand) (ho : o.op = .makeSlice t l c) (base : Nat) (kl kc : IntKind) (L C : Int) (n : Nat) (hl : a.eval l = .int kl L) (hc : a.eval c = .int kc C) (hL : L = (n : Int)) (hC : C = (n : Int))
    (hb : bytes * n ≤ 281474976710656) (hm : n ≤ maxLen) (hbase : base ≤ w.heap.size)
    (h : ∀ w', w'.ownsRow base e size (.slice (some ⟨w.heap.size, 0, none⟩) n n) n (madeCells z.cells (n * size)).toList → w.grownBy w' none → wpList P ops Q rest (a.put o.dst (.slice (some ⟨w.heap.size, 0, none⟩) n n)) w') : wpList P ops Q (o :: rest) a w := by
  obtain ⟨i, hi, hz, hsz, hby⟩ := E.info
  exact wpList_make_full w hgd l c t ho base e i z size E.desc hi hz hsz kl kc L C n hl hc hL hC (by rw [hby]; exact hb) hm hbase h
end

/-! ### Maps as lists of pairs, in the order in which their keys came. -/

/-- A key's type: how its keys are written, and what the model asks of them. -/
structure KeyOk {κ : Type} (P : Program) (k : TypeId) (mk : κ → Value) [DecidableEq κ] : Prop where
  desc : ∃ d, P.underlying k = some d ∧ (∀ a b, Instr.sameNow d (mk a) (mk b) = some (decide (a = b))) ∧ (∀ (w : World) em a, (Instr.checkKey em 10000 k (mk a)).run P w = .ok () w)
  bits : ∀ a, Instr.sameBits 10000 (mk a) (mk a) = true

theorem beq_ba (a b : ByteArray) : (a == b) = decide (a = b) := by
  rw [beq_toListBytes]
  by_cases h : a = b
  · simp [h]
  · have hn : ¬ a.toList = b.toList := fun e => h (by
      rw [ByteArray.toList_eq, ByteArray.toList_eq] at e
      cases a; cases b; simp at e; simp [e])
    simp [h, hn]

theorem strEq {a b : ByteArray} (h : a = b) : (a.toList == b.toList) = true := by rw [← beq_toListBytes, beq_ba]; simp [h]
theorem strNe {a b : ByteArray} (h : a ≠ b) : (a.toList == b.toList) = false := by rw [← beq_toListBytes, beq_ba]; simp [h]

theorem keyOk_string {P : Program} {k : TypeId} (h : P.underlying k = some .string) : KeyOk P k Value.string := by
  refine ⟨⟨.string, h, fun a b => by simp [Instr.sameNow, beq_ba], fun w em a => ?_⟩, fun a => by simp [Instr.sameBits, beq_ba]⟩
  exact MapKept.run_checkKey (k := .string a) h True.intro em 9999

theorem keyOk_int {P : Program} {k : TypeId} {q : IntKind} (h : P.underlying k = some (.int q)) : KeyOk P k (Value.int q) := by
  refine ⟨⟨.int q, h, fun a b => by by_cases h : a = b <;> simp [Instr.sameNow, h], fun w em a => ?_⟩, fun a => by simp [Instr.sameBits]⟩
  exact MapKept.run_checkKey (k := .int q a) h rfl em 9999

section
variable {κ β : Type} [DecidableEq κ] {P : Program} {k : TypeId} {mk : κ → Value} {mv : β → Value}

def alook : List (κ × β) → κ → Option β
  | [], _ => none
  | (a, v) :: r, x => if x = a then some v else alook r x
def aset : List (κ × β) → κ → β → List (κ × β)
  | [], x, u => [(x, u)]
  | (a, v) :: r, x, u => if x = a then (a, u) :: r else (a, v) :: aset r x u
def adel : List (κ × β) → κ → List (κ × β)
  | [], _ => []
  | (a, v) :: r, x => if x = a then r else (a, v) :: adel r x

/-- Block b is a map of these pairs. -/
def MapIs (mk : κ → Value) (mv : β → Value) (w : World) (b : Nat) (m : List (κ × β)) : Prop :=
  ∃ es clock, w.heap[b]? = some (.map es clock) ∧ es.toList.map (fun x => (x.key, x.val)) = m.map (fun x => (mk x.1, mv x.2)) ∧ MapKept.Stamped es clock

omit [DecidableEq κ] in
theorem MapIs.lt {w : World} {b : Nat} {m : List (κ × β)} (h : MapIs mk mv w b m) : b < w.heap.size := by
  obtain ⟨es, clock, hb, _⟩ := h
  exact (Array.getElem?_eq_some_iff.1 hb).1
omit [DecidableEq κ] in
theorem MapIs.kept {w w' : World} {b : Nat} {m : List (κ × β)} {row : Option Nat} (h : MapIs mk mv w b m) (hg : w.grownBy w' row) (hne : some b ≠ row) : MapIs mk mv w' b m := by
  have hlt := h.lt
  obtain ⟨es, clock, hb, F⟩ := h
  exact ⟨es, clock, (hg.block b hlt hne).trans hb, F⟩
omit [DecidableEq κ] in
theorem MapIs.alloc {w : World} {b : Nat} {m : List (κ × β)} (h : MapIs mk mv w b m) (o : Obj) : MapIs mk mv (w.alloc o) b m := h.kept (World.grownBy_alloc w o none) (by simp)
omit [DecidableEq κ] in
theorem MapIs.below {B : Nat} {w w' : World} {b : Nat} {m : List (κ × β)} (h : MapIs mk mv w b m) (hb : Below B w w') (hlt : b < B) : MapIs mk mv w' b m := by
  obtain ⟨es, clock, h1, F⟩ := h
  exact ⟨es, clock, (hb.block b hlt).trans h1, F⟩
omit [DecidableEq κ] in
theorem MapIs.made (mk : κ → Value) (mv : β → Value) (w : World) : MapIs mk mv (w.alloc (.map #[] 0)) w.heap.size [] := ⟨#[], 0, heap_alloc_new w _, rfl, MapKept.stamped_empty 0⟩

theorem findNow_spec {d : TypeDesc} (hd : ∀ a b, Instr.sameNow d (mk a) (mk b) = some (decide (a = b))) (x : κ) :
    ∀ (m : List (κ × β)) (es : List MapEntry) (i : Nat), es.map (fun x => (x.key, x.val)) = m.map (fun x => (mk x.1, mv x.2)) →
    (alook m x = none ∧ Instr.findNow d (mk x) es i = some none ∧ ∀ u, aset m x u = m ++ [(x, u)]) ∨
    ∃ j v e, alook m x = some v ∧ Instr.findNow d (mk x) es i = some (some (i + j, mv v)) ∧ es[j]? = some e ∧ e.key = mk x ∧ j < es.length ∧
      (∀ u, (es.modify j (fun e => { e with key := mk x, val := mv u })).map (fun x => (x.key, x.val)) = (aset m x u).map (fun x => (mk x.1, mv x.2))) ∧
      (es.eraseIdx j).map (fun x => (x.key, x.val)) = (adel m x).map (fun x => (mk x.1, mv x.2)) := by
  intro m
  induction m with
  | nil =>
    intro es i h
    have : es = [] := by simpa using h
    subst this
    exact .inl ⟨rfl, rfl, fun _ => rfl⟩
  | cons p r ih =>
    intro es i h
    cases es with
    | nil => simp at h
    | cons e es =>
      simp only [List.map_cons, List.cons.injEq, Prod.mk.injEq] at h
      obtain ⟨⟨hk, hv⟩, hr⟩ := h
      by_cases hx : x = p.1
      · right
        subst hx
        refine ⟨0, p.2, e, by simp [alook], ?_, rfl, hk, by simp, fun u => ?_, ?_⟩
        · simp [Instr.findNow, hk, hd, hv]
        · simp [aset, List.modify, hr]
        · simp [adel, hr]
      · have hn : Instr.sameNow d (mk x) e.key = some false := by rw [hk, hd]; simp [hx]
        rcases ih es (i + 1) hr with ⟨h1, h2, h3⟩ | ⟨j, v, e', h1, h2, h3, h4, h5, h6, h7⟩
        · exact .inl ⟨by simp [alook, hx, h1], by simp [Instr.findNow, hn, h2], fun u => by simp [aset, hx, h3]⟩
        · refine .inr ⟨j + 1, v, e', by simp [alook, hx, h1], by simp [Instr.findNow, hn, h2]; omega, by simpa using h3, h4, by simp; omega, fun u => ?_, ?_⟩
          · simp [aset, hx, h6, hk, hv]
          · simp [adel, hx, h7, hk, hv]

theorem alook_ne {x : κ} : ∀ {m : List (κ × β)}, alook m x = none → ∀ p ∈ m, p.1 ≠ x
  | (a, v) :: r, h, p, hp => by
    by_cases hx : x = a
    · simp [alook, hx] at h
    · simp [alook, hx] at h
      rcases List.mem_cons.1 hp with rfl | hp
      · exact fun e => hx e.symm
      · exact alook_ne h p hp
theorem KeyOk.inj (K : KeyOk P k mk) {a b : κ} (h : mk a = mk b) : a = b := by
  obtain ⟨d, _, hs, _⟩ := K.desc
  have h1 := hs a a
  have h2 := hs a b
  rw [← h, h1] at h2
  simpa using h2
theorem entry_ne (K : KeyOk P k mk) {es : Array MapEntry} {m : List (κ × β)} (F : es.toList.map (fun x => (x.key, x.val)) = m.map (fun x => (mk x.1, mv x.2))) {x : κ} (h : alook m x = none) : ∀ e ∈ es.toList, e.key ≠ mk x := fun e he hk => by
  have hm : (e.key, e.val) ∈ m.map (fun x => (mk x.1, mv x.2)) := by rw [← F]; exact List.mem_map_of_mem (f := fun x : MapEntry => (x.key, x.val)) he
  obtain ⟨p, hp, hpe⟩ := List.mem_map.1 hm
  have : mk p.1 = mk x := (congrArg Prod.fst hpe).trans hk
  exact alook_ne h p hp (K.inj this)
omit [DecidableEq κ] in
/-- A map has each key once. -/
theorem MapIs.nodup {w : World} {b : Nat} {m : List (κ × β)} (h : MapIs mk mv w b m) : (m.map Prod.fst).Nodup := by
  obtain ⟨es, clock, hb, F, ST⟩ := h
  have e : es.toList.map (·.key) = (m.map Prod.fst).map mk := by
    have := congrArg (List.map Prod.fst) F
    simpa [List.map_map, Function.comp_def] using this
  have := ST.2.2
  rw [e] at this
  exact List.Pairwise.imp (fun hne e => hne (by rw [e])) (List.pairwise_map.1 this)
theorem MapIs.run_lookup {t el : TypeId} {w : World} {b : Nat} {m : List (κ × β)} (h : MapIs mk mv w b m) (K : KeyOk P k mk) (ht : P.underlying t = some (.map k el)) {z : Value} (hz : (zeroValue el).run P w = .ok z w) (x : κ) (c : Bool) :
    (Instr.lookup t (.map (some b)) (mk x) c).run P w = .ok (if c then .tuple #[((alook m x).map mv).getD z, .bool (alook m x).isSome] else ((alook m x).map mv).getD z) w := by
  obtain ⟨es, clock, hb, F, ST⟩ := h
  obtain ⟨d, hd, hs, hck⟩ := K.desc
  rcases findNow_spec hs x m es.toList 0 F with ⟨h1, h2, _⟩ | ⟨j, v, e, h1, h2, _⟩
  · simp [Instr.lookup, run_underlying ht, MapKept.run_getObj_map hb, hck, Instr.findKey, run_underlying hd, h2, h1, hz, Result.andThen]
  · simp [Instr.lookup, run_underlying ht, MapKept.run_getObj_map hb, hck, Instr.findKey, run_underlying hd, h2, h1, Result.andThen]

theorem MapIs.run_update {t el : TypeId} {w : World} {b : Nat} {m : List (κ × β)} (h : MapIs mk mv w b m) (K : KeyOk P k mk) (ht : P.underlying t = some (.map k el)) (x : κ) (u : β) :
    ∃ w', (Instr.mapUpdate t (.map (some b)) (mk x) (mv u)).run P w = .ok () w' ∧ MapIs mk mv w' b (aset m x u) ∧ w.grownBy w' (some b) := by
  obtain ⟨es, clock, hb, F, ST⟩ := h
  obtain ⟨d, hd, hs, hck⟩ := K.desc
  have hgrow : ∀ o, w.grownBy (setBlock w b o) (some b) := fun o =>
    ⟨rfl, rfl, rfl, by simp [setBlock], fun i _ hi => heap_setBlock_other hb o (fun e => hi (by rw [e]))⟩
  rcases findNow_spec hs x m es.toList 0 F with ⟨h1, h2, h3⟩ | ⟨j, v, e, h1, h2, h4, h5, h6, h7, _⟩
  · refine ⟨setBlock w b (.map (es.push ⟨mk x, mv u, clock⟩) (clock + 1)), ?_, ⟨_, _, heap_setBlock_same hb _, ?_, MapKept.stamped_push ST (entry_ne K F h1)⟩, hgrow _⟩
    · simp [Instr.mapUpdate, run_underlying ht, MapKept.run_getObj_map hb, hck, Instr.findKey, run_underlying hd, h2, MapKept.run_setObj_map _ hb, Result.andThen, setBlock]
    · rw [h3]; simp [F]
  · have he : (es[j]?).map (·.key) = some (mk x) := by
      rw [← Array.getElem?_toList, h4]; simp [h5]
    refine ⟨setBlock w b (.map (es.modify j fun e => { e with key := mk x, val := mv u }) clock), ?_, ⟨_, _, heap_setBlock_same hb _, ?_, MapKept.stamped_modify ST j _ (fun _ _ => rfl) (fun e' _ he' => by rw [← Array.getElem?_toList, h4] at he'; cases he'; exact h5.symm)⟩, hgrow _⟩
    · simp only [Nat.zero_add] at h2
      simp [Instr.mapUpdate, run_underlying ht, MapKept.run_getObj_map hb, hck, Instr.findKey, run_underlying hd, h2, Result.andThen, he, Instr.keyThatStays, K.bits, MapKept.run_setObj_map _ hb, setBlock]
    · rw [← h7 u]; simp

theorem MapIs.run_delete {t el ty : TypeId} {w : World} {b : Nat} {m : List (κ × β)} (h : MapIs mk mv w b m) (K : KeyOk P k mk) (ht : P.underlying t = some (.map k el)) (x : κ) :
    ∃ w', (Builtin.delete_ #[t, k] ty #[.map (some b), mk x]).run P w = .ok (.tuple #[]) w' ∧ MapIs mk mv w' b (adel m x) ∧ w.grownBy w' (some b) := by
  obtain ⟨es, clock, hb, F, ST⟩ := h
  obtain ⟨d, hd, hs, hck⟩ := K.desc
  have hgrow : ∀ o, w.grownBy (setBlock w b o) (some b) := fun o =>
    ⟨rfl, rfl, rfl, by simp [setBlock], fun i _ hi => heap_setBlock_other hb o (fun e => hi (by rw [e]))⟩
  rcases findNow_spec hs x m es.toList 0 F with ⟨h1, h2, h3⟩ | ⟨j, v, e, h1, h2, h4, h5, h6, _, h7⟩
  · have hdel : adel m x = m := by
      clear F h2 h3
      induction m with
      | nil => rfl
      | cons p r ih =>
        simp only [alook] at h1
        by_cases hx : x = p.1
        · simp [hx] at h1
        · simp [hx] at h1; simp [adel, hx, ih h1]
    refine ⟨setBlock w b (.map es clock), ?_, ⟨_, _, heap_setBlock_same hb _, ?_, ST⟩, hgrow _⟩
    · simp [Builtin.delete_, run_underlying ht, MapKept.run_getObj_map hb, hck, Instr.findKey, run_underlying hd, h2, MapKept.run_setObj_map _ hb, Result.andThen, setBlock]
    · rw [hdel]; exact F
  · refine ⟨setBlock w b (.map (es.eraseIdxIfInBounds j) clock), ?_, ⟨_, _, heap_setBlock_same hb _, ?_, MapKept.stamped_erase ST j⟩, hgrow _⟩
    · simp only [Nat.zero_add] at h2
      simp [Builtin.delete_, run_underlying ht, MapKept.run_getObj_map hb, hck, Instr.findKey, run_underlying hd, h2, MapKept.run_setObj_map _ hb, Result.andThen, setBlock]
    · have hjs : j < es.size := by simpa using h6
      unfold Array.eraseIdxIfInBounds
      rw [dif_pos hjs]
      simpa using h7

/-- 'm[x]' and 'v, ok := m[x]' at the operation, for the walk. -/
theorem wpList_maplook {w : World} {ops : Array Oper} {rest : List Oper} {o : Oper} {a : Act} {Q : Exit → Act → World → Prop} {t el : TypeId}
    (K : KeyOk P k mk) (ht : P.underlying t = some (.map k el)) (hg : o.guard = none) (mo xo : Operand) (c : Bool) (hop : o.op = Op.lookup t mo xo c)
    (z : Value) (hz : (zeroValue el).run P w = .ok z w) (b : Nat) (m : List (κ × β)) (hm : a.eval mo = .map (some b)) (h : MapIs mk mv w b m) (x : κ) (hx : a.eval xo = mk x)
    (hK : wpList P ops Q rest (a.put o.dst (if c then .tuple #[((alook m x).map mv).getD z, .bool (alook m x).isSome] else ((alook m x).map mv).getD z)) w) : wpList P ops Q (o :: rest) a w := by
  refine wpList_plain hg fun K' hK' => ?_
  unfold Oper.wp
  simp [execOp, hop, hm, hx, h.run_lookup K ht hz x c, Result.andThen]
  exact hK' _ _ hK

/-- 'm[x] = u' at the operation, for the walk. -/
theorem wpList_mapset {w : World} {ops : Array Oper} {rest : List Oper} {o : Oper} {a : Act} {Q : Exit → Act → World → Prop} {t el : TypeId}
    (K : KeyOk P k mk) (ht : P.underlying t = some (.map k el)) (hg : o.guard = none) (mo xo vo : Operand) (hop : o.op = Op.mapUpdate t mo xo vo ∨ o.op = Op.insert t mo xo vo)
    (b : Nat) (m : List (κ × β)) (hm : a.eval mo = .map (some b)) (h : MapIs mk mv w b m) (x : κ) (hx : a.eval xo = mk x) (u : β) (hu : a.eval vo = mv u)
    (hK : ∀ w', MapIs mk mv w' b (aset m x u) → w.grownBy w' (some b) → wpList P ops Q rest (a.put o.dst undef) w') : wpList P ops Q (o :: rest) a w := by
  refine wpList_plain hg fun K' hK' => ?_
  obtain ⟨w', hrun, r1, r2⟩ := h.run_update K ht x u
  unfold Oper.wp
  rcases hop with hop | hop
  · simp [execOp, hop, hm, hx, hu, hrun, Result.andThen]
    exact hK' _ _ (hK w' r1 r2)
  · simp [execOp, hop, hm, hx, hu, hrun, Result.andThen]
    exact hK' _ _ (hK w' r1 r2)
end
end Go.Proofs.Ythlingholhjcnaa
namespace Go.Proofs.Ythlingholhjcnaa
open Go.RowKit Go.ChangeShapes Go.WideShapes Go.ChangeAt

section
variable {H : Type} {enc : TypeId × Value → H} {P : Program} {W : World}

theorem row_of_cells {p : Addr} {cs : List Value} (h : ∀ i (h : i < cs.length), W.cell? (p.add i) = some cs[i]) : Row W (some p) cs := by
  intro hne
  have h0 : 0 < cs.length := by cases cs with | nil => exact absurd rfl hne | cons a l => simp
  obtain ⟨b, o, s⟩ := p
  have hs : s = none := by
    have := h 0 h0
    cases s with
    | none => rfl
    | some x =>
      have e : (⟨b, o, some x⟩ : Addr).add 0 = ⟨b, o, some x⟩ := by simp [Addr.add]
      rw [e] at this
      simp only [World.cell?] at this
      split at this <;> simp at this
  subst hs
  exact ⟨b, o, rfl, fun i hi => by rw [← addr_add]; exact h i hi⟩

/-- A slice of strings that came in. -/
theorem open_strsRow {t e : TypeId} {base : Nat} {v : Value} {d : DataW H} {ps : List MemPlace} (ht : P.underlying t = some (.slice e)) (he : P.underlying e = some .string) (hc : P.cellsOf e = 1)
    (hv : Value.okWide P W .any base t v) (h : DataW.Trod enc P W 0 (fun _ => true) true t v d ps) :
    ∃ (p : Option Addr) (c : Nat) (xs sp : List ByteArray), v = .slice p xs.length c ∧ xs.length ≤ c ∧ c ≤ maxLen ∧ Row W p (xs.map Value.string) ∧ (∀ s ∈ xs, s.size ≤ maxLen) ∧ (p = none → c = 0) ∧
      ((d = .nil ∧ xs = []) ∨ d = .slice (strs xs) (strs sp)) := by
  obtain ⟨a1, len1, cap1, rfl⟩ := okWide_slice ht hv
  obtain ⟨fuel, hf⟩ := h
  rcases open_strings ht he hc hf with ⟨hcs, hx⟩ | ⟨a, len, cap, ss, hcs, _, hl, hm, hz, hx, hcell, hws⟩
  · simp [Value.cells] at hcs
    obtain ⟨rfl, rfl, rfl⟩ := hcs
    simp only [Prod.mk.injEq] at hx
    exact ⟨none, 0, [], [], rfl, Nat.le_refl _, Nat.zero_le _, Row.nil _ _, by simp, fun _ => rfl, .inl ⟨hx.1, rfl⟩⟩
  · simp [Value.cells] at hcs
    obtain ⟨rfl, rfl, rfl⟩ := hcs
    simp only [Prod.mk.injEq] at hx
    have hlen : (ss.take len1).length = len1 := by simp at hz; simp; omega
    refine ⟨some a, cap1, ss.take len1, ss.drop len1, by rw [hlen], by rw [hlen]; exact hl, hm, ?_, fun s hs => hws s (List.mem_of_mem_take hs), by simp, .inr hx.1⟩
    refine row_of_cells fun i hi => ?_
    have hi' : i < len1 := by simp at hi; omega
    have hi2 : i < ss.length := by simp at hz; omega
    rw [hcell i hi2]
    simp [List.getD, hi2]

theorem reach_strs {ts : List TypeId} {ds : List (DataW H)} {t e : TypeId} (ht : P.underlying t = some (.slice e)) (h : (DataW.weightsEach P ts ds).all (· ≤ reachBytes) = true) {j : Nat} {xs sp : List ByteArray} {d : DataW H}
    (h1 : ts[j]? = some t) (h2 : ds[j]? = some d) (hd : (d = .nil ∧ xs = []) ∨ d = .slice (strs xs) (strs sp)) : ∀ s ∈ xs, s.size ≤ 140737488351232 := by
  intro s hs
  rcases hd with ⟨_, hx⟩ | hd
  · subst hx; cases hs
  · have hmem : s.size ∈ d.weights P t := by
      rw [hd, DataW.weights, ht]
      refine List.mem_cons_of_mem _ (List.mem_append_left _ ?_)
      clear h2 hd
      induction xs with
      | nil => cases hs
      | cons a l ih =>
        simp only [strs, List.map_cons, DataW.weightsAll]
        rcases List.mem_cons.1 hs with rfl | hs
        · refine List.mem_append_left _ ?_
          simp [DataW.weights]
        · exact List.mem_append_right _ (ih hs)
    have := List.all_eq_true.1 h _ (DataW.weights_mem_each h1 h2 _ hmem)
    have h4 : s.size ≤ reachBytes := by simpa using this
    have h5 : reachBytes = 140737488351232 := by decide
    omega

/-- A slice of integers that came in. -/
theorem open_intsRow {t e : TypeId} {k : IntKind} {base : Nat} {v : Value} {d : DataW H} {ps : List MemPlace} (ht : P.underlying t = some (.slice e)) (he : P.underlying e = some (.int k)) (hc : P.cellsOf e = 1)
    (hv : Value.okWide P W .any base t v) (h : DataW.Trod enc P W 0 (fun _ => true) true t v d ps) :
    ∃ (p : Option Addr) (c : Nat) (xs : List Int), v = .slice p xs.length c ∧ xs.length ≤ c ∧ c ≤ maxLen ∧ Row W p (xs.map (Value.int k)) ∧ (∀ n ∈ xs, (Lit.int k n).wf = true) ∧ (p = none → c = 0) := by
  obtain ⟨a1, len1, cap1, rfl⟩ := okWide_slice ht hv
  obtain ⟨fuel, hf⟩ := h
  rcases open_ints ht he hc hf with ⟨hcs, _⟩ | ⟨a, len, cap, zs, hcs, _, hl, hm, hz, _, hcell, hwz⟩
  · simp [Value.cells] at hcs
    obtain ⟨rfl, rfl, rfl⟩ := hcs
    exact ⟨none, 0, [], rfl, Nat.le_refl _, Nat.zero_le _, Row.nil _ _, by simp, fun _ => rfl⟩
  · simp [Value.cells] at hcs
    obtain ⟨rfl, rfl, rfl⟩ := hcs
    have hlen : (zs.take len1).length = len1 := by simp at hz; simp; omega
    refine ⟨some a, cap1, zs.take len1, by rw [hlen], by rw [hlen]; exact hl, hm, ?_, fun s hs => hwz s (List.mem_of_mem_take hs), by simp⟩
    refine row_of_cells fun i hi => ?_
    have hi' : i < len1 := by simp at hi; omega
    have hi2 : i < zs.length := by simp at hz; omega
    rw [hcell i hi2]
    simp [List.getD, hi2]
end
end Go.Proofs.Ythlingholhjcnaa
namespace Go.Proofs.Ythlingholhjcnaa
open Go.RowKit Go.ChangeShapes Go.WideShapes Go.ChangeAt

theorem flat_len {α : Type} (f : α → List Value) (k : Nat) (hk : ∀ x, (f x).length = k) (xs : List α) : (xs.flatMap f).length = k * xs.length := by
  induction xs with
  | nil => rfl
  | cons a l ih => simp only [List.flatMap_cons, List.length_append, hk, ih, List.length_cons]; rw [Nat.mul_succ]; omega
theorem flat_get {α : Type} (f : α → List Value) (k : Nat) (hk : ∀ x, (f x).length = k) : ∀ (xs : List α) (q : Nat) (h : q < xs.length) (j : Nat) (_ : j < k), (xs.flatMap f)[k * q + j]? = (f xs[q])[j]?
  | [], q, h, _, _ => by simp at h
  | a :: l, 0, _, j, hj => by
    rw [List.flatMap_cons, List.getElem?_append_left (by rw [hk]; omega)]
    simp
  | a :: l, q + 1, h, j, hj => by
    rw [List.flatMap_cons, List.getElem?_append_right (by rw [hk, Nat.mul_succ]; omega), hk]
    have := flat_get f k hk l q (by simpa using h) j hj
    rw [show k * (q + 1) + j - k = k * q + j by rw [Nat.mul_succ]; omega, this]
    simp

theorem flat_one {α : Type} (f : α → Value) (xs : List α) : xs.flatMap (fun b => [f b]) = xs.map f := by
  induction xs with
  | nil => rfl
  | cons a l ih => simp only [List.flatMap_cons, List.map_cons, ih]; rfl

section
variable {H : Type} {enc : TypeId × Value → H} {P : Program} {W : World}

theorem open_rowGen {α : Type} (f : α → List Value) (ok : α → Prop) {t e : TypeId} {base k : Nat} {v : Value} {d : DataW H} {ps : List MemPlace} (ht : P.underlying t = some (.slice e)) (hc : P.cellsOf e = k) (hk0 : 0 < k) (hk : ∀ x, (f x).length = k)
    (hel : ∀ (n : Nat) (cs : List Value) (y : DataW H × List MemPlace), DataW.trod enc P W 0 (fun _ => true) true n e cs = some y → ∃ x, cs = f x ∧ ok x)
    (hv : Value.okWide P W .any base t v) (h : DataW.Trod enc P W 0 (fun _ => true) true t v d ps) :
    ∃ (p : Option Addr) (c : Nat) (xs : List α), v = .slice p xs.length c ∧ xs.length ≤ c ∧ c ≤ maxLen ∧ Row W p (xs.flatMap f) ∧ (∀ x ∈ xs, ok x) ∧ (p = none → c = 0) := by
  obtain ⟨a1, len1, cap1, rfl⟩ := okWide_slice ht hv
  obtain ⟨fuel, hf⟩ := h
  rcases Go.Deep.open_slice ht hf with ⟨hcs, _⟩ | ⟨a, len, cap, m, n, D, Pl, hcs, _, hl, hm, hmm, _, hx⟩
  · simp [Value.cells] at hcs
    obtain ⟨rfl, rfl, rfl⟩ := hcs
    exact ⟨none, 0, [], rfl, Nat.le_refl _, Nat.zero_le _, Row.nil _ _, by simp, fun _ => rfl⟩
  · simp [Value.cells] at hcs
    obtain ⟨rfl, rfl, rfl⟩ := hcs
    simp only [if_true] at hmm
    subst hmm
    have each : ∀ i, i < len1 → ∃ x, ok x ∧ W.cells? 0 (a.add (i * k)) k = some (f x) := fun i hi => by
      obtain ⟨cs', h1, h2⟩ := hx i (by omega)
      obtain ⟨x, rfl, hok⟩ := hel _ _ _ h2
      rw [hc] at h1
      exact ⟨x, hok, h1⟩
    have build : ∀ j, j ≤ len1 → ∃ xs : List α, xs.length = j ∧ ∀ i (hi : i < xs.length), ok xs[i] ∧ W.cells? 0 (a.add (i * k)) k = some (f xs[i]) := by
      intro j
      induction j with
      | zero => exact fun _ => ⟨[], rfl, by simp⟩
      | succ j ih =>
        intro hj
        obtain ⟨xs, hxl, hxs⟩ := ih (by omega)
        obtain ⟨x, hok, hce⟩ := each j (by omega)
        refine ⟨xs ++ [x], by simp [hxl], fun i hi => ?_⟩
        by_cases hij : i < xs.length
        · rw [List.getElem_append_left hij]; exact hxs i hij
        · have : i = xs.length := by simp at hi; omega
          subst this
          rw [← hxl] at hce
          simp only [List.getElem_append_right (Nat.le_refl _), Nat.sub_self, List.getElem_singleton]
          exact ⟨hok, hce⟩
    obtain ⟨xs, hxl, hxs⟩ := build len1 (Nat.le_refl _)
    refine ⟨some a, m, xs, by rw [hxl], by rw [hxl]; exact hl, hm, ?_, fun x hxm => ?_, by simp⟩
    · refine row_of_cells fun i hi => ?_
      rw [flat_len f k hk] at hi
      have hq : i / k < xs.length := (Nat.div_lt_iff_lt_mul hk0).2 (by rw [Nat.mul_comm]; exact hi)
      have hr := Nat.mod_lt i hk0
      have hi2 : k * (i / k) + i % k = i := Nat.div_add_mod i k
      obtain ⟨_, hlen, hcell⟩ := World.cells?_some (hxs _ hq).2
      have e1 := hcell (i % k) hr
      have e2 := flat_get f k hk xs (i / k) hq (i % k) hr
      rw [hi2] at e2
      have e3 : (a.add (i / k * k)).add (i % k) = a.add i := by rw [Go.Deep.add_add, Nat.mul_comm, hi2]
      rw [e3] at e1
      rw [e1, ← e2]
      exact List.getElem?_eq_getElem _
    · obtain ⟨i, hi, rfl⟩ := List.getElem_of_mem hxm
      exact (hxs i hi).1

/-- A slice of bools that came in. -/
theorem open_boolsRow {t e : TypeId} {base : Nat} {v : Value} {d : DataW H} {ps : List MemPlace} (ht : P.underlying t = some (.slice e)) (he : P.underlying e = some .bool) (hc : P.cellsOf e = 1)
    (hv : Value.okWide P W .any base t v) (h : DataW.Trod enc P W 0 (fun _ => true) true t v d ps) :
    ∃ (p : Option Addr) (c : Nat) (xs : List Bool), v = .slice p xs.length c ∧ xs.length ≤ c ∧ c ≤ maxLen ∧ Row W p (xs.map Value.bool) ∧ (p = none → c = 0) := by
  obtain ⟨p, c, xs, h1, h2, h3, h4, _, h5⟩ := open_rowGen (k := 1) (fun b : Bool => [Value.bool b]) (fun _ => True) ht hc (by decide) (fun _ => rfl) (fun n cs y hy => by
    obtain ⟨b, h1, _⟩ := DataW.trod_bool he hy
    exact ⟨b, h1, trivial⟩) hv h
  refine ⟨p, c, xs, h1, h2, h3, ?_, h5⟩
  rwa [flat_one] at h4
end
end Go.Proofs.Ythlingholhjcnaa
namespace Go.Proofs.Ythlingholhjcnaa
open Go.RowKit Go.ChangeShapes Go.WideShapes Go.ChangeAt

section
variable {H : Type} (enc : TypeId × Value → H) (P : Program) (W : World)

/-- Within the form's reach. -/
def Light (t : TypeId) (d : DataW H) : Prop := ∀ m ∈ d.weights P t, m ≤ 140737488351232
/-- The cells of a value of type t that came in are those of some x of ours. -/
def OpensAs (t : TypeId) {α : Type} (f : α → List Value) (ok : α → Prop) : Prop :=
  ∀ (n : Nat) (cs : List Value) (y : DataW H × List MemPlace), DataW.trod enc P W 0 (fun _ => true) true n t cs = some y → Light P t y.1 → ∃ x, cs = f x ∧ ok x
variable {enc P W}

theorem light_all {t : TypeId} : ∀ {ds : List (DataW H)} {d : DataW H}, d ∈ ds → (∀ m ∈ DataW.weightsAll P t ds, m ≤ 140737488351232) → Light P t d
  | [], d, h, _ => by cases h
  | a :: l, d, h, hw => by
    simp only [DataW.weightsAll, List.mem_append] at hw
    rcases List.mem_cons.1 h with rfl | h
    · exact fun m hm => hw m (.inl hm)
    · exact light_all h (fun m hm => hw m (.inr hm))
theorem light_each : ∀ {ts : List TypeId} {ds : List (DataW H)} {j : Nat} {t : TypeId} {d : DataW H}, ts[j]? = some t → ds[j]? = some d → (∀ m ∈ DataW.weightsEach P ts ds, m ≤ 140737488351232) → Light P t d :=
  fun h1 h2 hw m hm => hw m (DataW.weights_mem_each h1 h2 m hm)
/-- A struct's field. -/
theorem light_field {t : TypeId} {fs : Array Field} {xs : List (DataW H × List MemPlace)} (ht : P.underlying t = some (.struct fs)) (h : Light P t (.agg (xs.map (·.1)))) {j : Nat} {f : Field} {y : DataW H × List MemPlace} (hf : fs[j]? = some f) (hx : xs[j]? = some y) : Light P f.type y.1 := by
  refine light_each (ts := fs.toList.map (·.type)) (ds := xs.map (·.1)) (j := j) (by simp [hf]) (by simp [hx]) ?_
  intro m hm
  refine h m ?_
  rw [DataW.weights, ht]
  exact hm

theorem opens_int {t : TypeId} {k : IntKind} (ht : P.underlying t = some (.int k)) : OpensAs enc P W t (fun n : Int => [Value.int k n]) (fun n => (Lit.int k n).wf = true) := fun n cs y h _ => by
  obtain ⟨m, e, _, w⟩ := DataW.trod_int ht h
  exact ⟨m, e, w⟩
theorem opens_bool {t : TypeId} (ht : P.underlying t = some .bool) : OpensAs enc P W t (fun b : Bool => [Value.bool b]) (fun _ => True) := fun n cs y h _ => by
  obtain ⟨b, e, _⟩ := DataW.trod_bool ht h
  exact ⟨b, e, trivial⟩
theorem opens_intSlice {t e : TypeId} {k : IntKind} (ht : P.underlying t = some (.slice e)) (he : P.underlying e = some (.int k)) (hc : P.cellsOf e = 1) (bytes : Nat) (hby : P.bytesOf e = bytes) :
    OpensAs enc P W t (fun z : Option Addr × Nat × List Int => [Value.slice z.1 z.2.2.length z.2.1]) (fun z => z.2.2.length ≤ z.2.1 ∧ z.2.1 ≤ maxLen ∧ (z.1 = none → z.2.1 = 0) ∧ Row W z.1 (z.2.2.map (Value.int k)) ∧ (∀ n ∈ z.2.2, (Lit.int k n).wf = true) ∧ z.2.1 * bytes ≤ 140737488351232) := fun n cs y h hlt => by
  rcases open_ints ht he hc h with ⟨hcs, _⟩ | ⟨a, len, cap, zs, hcs, _, hl, hm, hz, hy, hcell, hwz⟩
  · exact ⟨(none, 0, []), hcs, Nat.le_refl _, Nat.zero_le _, fun _ => rfl, Row.nil _ _, by simp, by simp⟩
  · have hwt : cap * bytes ≤ 140737488351232 := by
      have hz : zs.length = cap := by simpa using hz
      refine hlt _ ?_
      rw [hy, DataW.weights, ht]
      refine List.mem_cons.2 (.inl ?_)
      rw [hby]
      congr 1
      simp [lits]; omega
    have hz : zs.length = cap := by simpa using hz
    have hlen : (zs.take len).length = len := by simp; omega
    refine ⟨(some a, cap, zs.take len), by rw [hcs]; simp only [hlen], by rw [hlen]; exact hl, hm, by simp, ?_, fun s hs => hwz s (List.mem_of_mem_take hs), hwt⟩
    refine row_of_cells fun i hi => ?_
    have hi' : i < len := by simp at hi; omega
    have hi2 : i < zs.length := by omega
    rw [hcell i hi2]
    simp [List.getD, hi2]

/-- A slice of what opens. -/
theorem opens_slice {α : Type} {f : α → List Value} {ok : α → Prop} {t e : TypeId} {k : Nat} (ht : P.underlying t = some (.slice e)) (hc : P.cellsOf e = k) (hk0 : 0 < k) (hk : ∀ x, (f x).length = k) (hel : OpensAs enc P W e f ok) :
    OpensAs enc P W t (fun z : Option Addr × Nat × List α => [Value.slice z.1 z.2.2.length z.2.1]) (fun z => z.2.2.length ≤ z.2.1 ∧ z.2.1 ≤ maxLen ∧ (z.1 = none → z.2.1 = 0) ∧ Row W z.1 (z.2.2.flatMap f) ∧ (∀ x ∈ z.2.2, ok x) ∧ z.2.1 * P.bytesOf e ≤ 140737488351232) := fun n cs y hf hlt => by
  rcases Go.Deep.open_slice ht hf with ⟨hcs, _⟩ | ⟨a, len, cap, m, n, D, Pl, hcs, _, hl, hm, hmm, hy, hx⟩
  · exact ⟨(none, 0, []), hcs, Nat.le_refl _, Nat.zero_le _, fun _ => rfl, Row.nil _ _, by simp, by simp⟩
  · simp only [if_true] at hmm
    subst hmm
    have hwt : m * P.bytesOf e ≤ 140737488351232 := by
      refine hlt _ ?_
      rw [hy, DataW.weights, ht]
      refine List.mem_cons.2 (.inl ?_)
      congr 1
      simp; omega
    have hwe : ∀ i, i < len → Light P e (D i) := fun i hi => by
      refine light_all (ds := (List.range len).map D) (List.mem_map.2 ⟨i, List.mem_range.2 hi, rfl⟩) (fun m' hm' => hlt m' ?_)
      rw [hy, DataW.weights, ht]
      exact List.mem_cons_of_mem _ (List.mem_append_left _ hm')
    have each : ∀ i, i < len → ∃ x, ok x ∧ W.cells? 0 (a.add (i * k)) k = some (f x) := fun i hi => by
      obtain ⟨cs', h1, h2⟩ := hx i (by omega)
      obtain ⟨x, rfl, hok⟩ := hel _ _ _ h2 (hwe i hi)
      rw [hc] at h1
      exact ⟨x, hok, h1⟩
    have build : ∀ j, j ≤ len → ∃ xs : List α, xs.length = j ∧ ∀ i (hi : i < xs.length), ok xs[i] ∧ W.cells? 0 (a.add (i * k)) k = some (f xs[i]) := by
      intro j
      induction j with
      | zero => exact fun _ => ⟨[], rfl, by simp⟩
      | succ j ih =>
        intro hj
        obtain ⟨xs, hxl, hxs⟩ := ih (by omega)
        obtain ⟨x, hok, hce⟩ := each j (by omega)
        refine ⟨xs ++ [x], by simp [hxl], fun i hi => ?_⟩
        by_cases hij : i < xs.length
        · rw [List.getElem_append_left hij]; exact hxs i hij
        · have : i = xs.length := by simp at hi; omega
          subst this
          rw [← hxl] at hce
          simp only [List.getElem_append_right (Nat.le_refl _), Nat.sub_self, List.getElem_singleton]
          exact ⟨hok, hce⟩
    obtain ⟨xs, hxl, hxs⟩ := build len (Nat.le_refl _)
    refine ⟨(some a, m, xs), by rw [hcs]; simp only [hxl], by rw [hxl]; exact hl, hm, by simp, ?_, fun x hxm => ?_, hwt⟩
    · refine row_of_cells fun i hi => ?_
      simp only at hi ⊢
      rw [flat_len f k hk] at hi
      have hq : i / k < xs.length := (Nat.div_lt_iff_lt_mul hk0).2 (by rw [Nat.mul_comm]; exact hi)
      have hr := Nat.mod_lt i hk0
      have hi2 : k * (i / k) + i % k = i := Nat.div_add_mod i k
      obtain ⟨_, hlen, hcell⟩ := World.cells?_some (hxs _ hq).2
      have e1 := hcell (i % k) hr
      have e2 := flat_get f k hk xs (i / k) hq (i % k) hr
      rw [hi2] at e2
      have e3 : (a.add (i / k * k)).add (i % k) = a.add i := by rw [Go.Deep.add_add, Nat.mul_comm, hi2]
      rw [e3] at e1
      rw [e1, ← e2]
      exact List.getElem?_eq_getElem _
    · obtain ⟨i, hi, rfl⟩ := List.getElem_of_mem hxm
      exact (hxs i hi).1

/-- A struct that came in by value. -/
theorem param_struct {α : Type} {f : α → List Value} {ok : α → Prop} {t : TypeId} {fs : Array Field} {base : Nat} {v : Value} {d : DataW H} {ps : List MemPlace} (ht : P.underlying t = some (.struct fs)) (ho : OpensAs enc P W t f ok)
    (hv : Value.okWide P W .any base t v) (h : DataW.Trod enc P W 0 (fun _ => true) true t v d ps) (hlt : Light P t d) : ∃ x, v = .agg (f x).toArray ∧ ok x := by
  obtain ⟨cs, rfl, _⟩ := okWide_struct ht hv
  obtain ⟨n, hf⟩ := h
  obtain ⟨x, e, hok⟩ := ho _ _ _ hf hlt
  refine ⟨x, ?_, hok⟩
  have e2 : cs.toList = f x := by simpa [Value.cells] using e
  rw [← e2]
/-- A value of one cell. -/
theorem param_slice {α : Type} {f : α → List Value} {ok : α → Prop} {t e : TypeId} {base : Nat} {v : Value} {d : DataW H} {ps : List MemPlace} (ht : P.underlying t = some (.slice e)) (ho : OpensAs enc P W t f ok)
    (hv : Value.okWide P W .any base t v) (h : DataW.Trod enc P W 0 (fun _ => true) true t v d ps) (hlt : Light P t d) : ∃ x, [v] = f x ∧ ok x := by
  obtain ⟨a1, len1, cap1, rfl⟩ := okWide_slice ht hv
  obtain ⟨n, hf⟩ := h
  obtain ⟨x, e, hok⟩ := ho _ _ _ hf hlt
  exact ⟨x, by simpa [Value.cells] using e, hok⟩
/-- The reach of parameter j. -/
theorem light_param {ts : List TypeId} {ds : List (DataW H)} {j : Nat} {t : TypeId} {d : DataW H} (h : (DataW.weightsEach P ts ds).all (· ≤ reachBytes) = true) (h1 : ts[j]? = some t) (h2 : ds[j]? = some d) : Light P t d :=
  light_each h1 h2 (fun m hm => by
    have := List.all_eq_true.1 h m hm
    have h4 : m ≤ reachBytes := by simpa using this
    have h5 : reachBytes = 140737488351232 := by decide
    omega)
end
end Go.Proofs.Ythlingholhjcnaa
namespace Go.Proofs.Ythlingholhjcnaa
open Go.RowKit

def inI64 (n : Int) : Prop := -9223372036854775808 ≤ n ∧ n ≤ 9223372036854775807
/-- A slice: where it lies, its capacity, what it holds. -/
structure Sl (α : Type) where
  p : Option Addr
  c : Nat
  l : List α
def Sl.val {α : Type} (s : Sl α) : Value := .slice s.p s.l.length s.c
/-- A slice lies as its list says. -/
structure SlOk (W : World) {α : Type} (f : α → List Value) (bytes : Nat) (s : Sl α) : Prop where
  row : Row W s.p (s.l.flatMap f)
  len : s.l.length ≤ s.c
  cap : s.l.length * bytes ≤ 140737488351232
  nil : s.p = none → s.c = 0
theorem SlOk.below {W w : World} {α : Type} {f : α → List Value} {bytes : Nat} {s : Sl α} (h : SlOk W f bytes s) (hb : Below W.heap.size W w) : SlOk w f bytes s := ⟨h.row.below hb, h.len, h.cap, h.nil⟩
structure Vv where
  add : Int
  plus : ByteArray
  minus : ByteArray
  deriving DecidableEq
def Vv.cells (x : Vv) : List Value := [.int .i64 x.add, .string x.plus, .string x.minus]
theorem Vv.ncells (x : Vv) : x.cells.length = 3 := rfl
structure Vv.ok (x : Vv) : Prop where
  add : inI64 x.add
  plus : x.plus.size ≤ 140737488351232
  minus : x.minus.size ≤ 140737488351232
structure Rg where
  n : Int
  x : Bool
  sp : Bool
  deriving DecidableEq
def Rg.cells (x : Rg) : List Value := [.int .i64 x.n, .bool x.x, .bool x.sp]
theorem Rg.ncells (x : Rg) : x.cells.length = 3 := rfl
structure Rg.ok (x : Rg) : Prop where
  n : inI64 x.n
structure Oc where
  kind : Int
  r : Rg
  m : Rg
  «mod» : Int
  amt : Int
  n : Int
  v : Vv
  lo : Bool
  mode : Int
  deriving DecidableEq
def Oc.cells (x : Oc) : List Value := [.int .i64 x.kind, .int .i64 x.r.n, .bool x.r.x, .bool x.r.sp, .int .i64 x.m.n, .bool x.m.x, .bool x.m.sp, .int .i64 x.mod, .int .i64 x.amt, .int .i64 x.n, .int .i64 x.v.add, .string x.v.plus, .string x.v.minus, .bool x.lo, .int .i64 x.mode]
theorem Oc.ncells (x : Oc) : x.cells.length = 15 := rfl
structure Oc.ok (x : Oc) : Prop where
  kind : inI64 x.kind
  r : x.r.ok
  m : x.m.ok
  «mod» : inI64 x.mod
  amt : inI64 x.amt
  n : inI64 x.n
  v : x.v.ok
  mode : inI64 x.mode
structure LnR where
  name : ByteArray
  opers : Sl Oc
def LnR.cells (x : LnR) : List Value := [.string x.name, x.opers.val]
theorem LnR.ncells (x : LnR) : x.cells.length = 2 := rfl
structure LnR.ok (W : World) (x : LnR) : Prop where
  name : x.name.size ≤ 140737488351232
  opers : SlOk W Oc.cells 120 x.opers ∧ ∀ y ∈ x.opers.l, y.ok
theorem LnR.ok.below {W w : World} {x : LnR} (h : x.ok W) (hb : Below W.heap.size W w) : x.ok w := ⟨h.name, ⟨h.opers.1.below hb, h.opers.2⟩⟩
structure StR where
  labels : Sl ByteArray
  kind : Int
  l : LnR
  names : Sl ByteArray
  size : Int
  values : Sl Vv
  bytes : Sl Int
def StR.cells (x : StR) : List Value := [x.labels.val, .int .i64 x.kind, .string x.l.name, x.l.opers.val, x.names.val, .int .i64 x.size, x.values.val, x.bytes.val]
theorem StR.ncells (x : StR) : x.cells.length = 8 := rfl
structure StR.ok (W : World) (x : StR) : Prop where
  labels : SlOk W (fun s : ByteArray => [Value.string s]) 16 x.labels ∧ ∀ s ∈ x.labels.l, s.size ≤ 140737488351232
  kind : inI64 x.kind
  l : x.l.ok W
  names : SlOk W (fun s : ByteArray => [Value.string s]) 16 x.names ∧ ∀ s ∈ x.names.l, s.size ≤ 140737488351232
  size : inI64 x.size
  values : SlOk W Vv.cells 40 x.values ∧ ∀ y ∈ x.values.l, y.ok
  bytes : SlOk W (fun n : Int => [Value.int .u8 n]) 1 x.bytes ∧ ∀ n ∈ x.bytes.l, 0 ≤ n ∧ n ≤ 255
theorem StR.ok.below {W w : World} {x : StR} (h : x.ok W) (hb : Below W.heap.size W w) : x.ok w := ⟨⟨h.labels.1.below hb, h.labels.2⟩, h.kind, h.l.below hb, ⟨h.names.1.below hb, h.names.2⟩, h.size, ⟨h.values.1.below hb, h.values.2⟩, ⟨h.bytes.1.below hb, h.bytes.2⟩⟩
structure RwR where
  line : Int
  s : StR
def RwR.cells (x : RwR) : List Value := [.int .i64 x.line, x.s.labels.val, .int .i64 x.s.kind, .string x.s.l.name, x.s.l.opers.val, x.s.names.val, .int .i64 x.s.size, x.s.values.val, x.s.bytes.val]
theorem RwR.ncells (x : RwR) : x.cells.length = 9 := rfl
structure RwR.ok (W : World) (x : RwR) : Prop where
  line : inI64 x.line
  s : x.s.ok W
theorem RwR.ok.below {W w : World} {x : RwR} (h : x.ok W) (hb : Below W.heap.size W w) : x.ok w := ⟨h.line, h.s.below hb⟩
structure PcR where
  kind : Int
  file : Int
  line : Int
  l : LnR
  v : Vv
  size : Int
  b : Sl Int
  align : Int
def PcR.cells (x : PcR) : List Value := [.int .i64 x.kind, .int .i64 x.file, .int .i64 x.line, .string x.l.name, x.l.opers.val, .int .i64 x.v.add, .string x.v.plus, .string x.v.minus, .int .i64 x.size, x.b.val, .int .i64 x.align]
theorem PcR.ncells (x : PcR) : x.cells.length = 11 := rfl
structure PcR.ok (W : World) (x : PcR) : Prop where
  kind : inI64 x.kind
  file : inI64 x.file
  line : inI64 x.line
  l : x.l.ok W
  v : x.v.ok
  size : inI64 x.size
  b : SlOk W (fun n : Int => [Value.int .u8 n]) 1 x.b ∧ ∀ n ∈ x.b.l, 0 ≤ n ∧ n ≤ 255
  align : inI64 x.align
theorem PcR.ok.below {W w : World} {x : PcR} (h : x.ok W) (hb : Below W.heap.size W w) : x.ok w := ⟨h.kind, h.file, h.line, h.l.below hb, h.v, h.size, ⟨h.b.1.below hb, h.b.2⟩, h.align⟩
structure PtR where
  name : ByteArray
  file : Int
  line : Int
  pieces : Sl PcR
def PtR.cells (x : PtR) : List Value := [.string x.name, .int .i64 x.file, .int .i64 x.line, x.pieces.val]
theorem PtR.ncells (x : PtR) : x.cells.length = 4 := rfl
structure PtR.ok (W : World) (x : PtR) : Prop where
  name : x.name.size ≤ 140737488351232
  file : inI64 x.file
  line : inI64 x.line
  pieces : SlOk W PcR.cells 144 x.pieces ∧ ∀ y ∈ x.pieces.l, y.ok W
theorem PtR.ok.below {W w : World} {x : PtR} (h : x.ok W) (hb : Below W.heap.size W w) : x.ok w := ⟨h.name, h.file, h.line, ⟨h.pieces.1.below hb, fun y hy => (h.pieces.2 y hy).below hb⟩⟩
structure Mk where
  name : ByteArray
  file : Int
  line : Int
  part : Int
  piece : Int
  equ : Bool
  v : Vv
  deriving DecidableEq
def Mk.cells (x : Mk) : List Value := [.string x.name, .int .i64 x.file, .int .i64 x.line, .int .i64 x.part, .int .i64 x.piece, .bool x.equ, .int .i64 x.v.add, .string x.v.plus, .string x.v.minus]
theorem Mk.ncells (x : Mk) : x.cells.length = 9 := rfl
structure Mk.ok (x : Mk) : Prop where
  name : x.name.size ≤ 140737488351232
  file : inI64 x.file
  line : inI64 x.line
  part : inI64 x.part
  piece : inI64 x.piece
  v : x.v.ok
structure Td where
  name : ByteArray
  file : Int
  line : Int
  deriving DecidableEq
def Td.cells (x : Td) : List Value := [.string x.name, .int .i64 x.file, .int .i64 x.line]
theorem Td.ncells (x : Td) : x.cells.length = 3 := rfl
structure Td.ok (x : Td) : Prop where
  name : x.name.size ≤ 140737488351232
  file : inI64 x.file
  line : inI64 x.line
structure UnR where
  parts : Sl PtR
  marks : Sl Mk
  globals : Sl Td
def UnR.cells (x : UnR) : List Value := [x.parts.val, x.marks.val, x.globals.val]
theorem UnR.ncells (x : UnR) : x.cells.length = 3 := rfl
structure UnR.ok (W : World) (x : UnR) : Prop where
  parts : SlOk W PtR.cells 56 x.parts ∧ ∀ y ∈ x.parts.l, y.ok W
  marks : SlOk W Mk.cells 96 x.marks ∧ ∀ y ∈ x.marks.l, y.ok
  globals : SlOk W Td.cells 32 x.globals ∧ ∀ y ∈ x.globals.l, y.ok
theorem UnR.ok.below {W w : World} {x : UnR} (h : x.ok W) (hb : Below W.heap.size W w) : x.ok w := ⟨⟨h.parts.1.below hb, fun y hy => (h.parts.2 y hy).below hb⟩, ⟨h.marks.1.below hb, h.marks.2⟩, ⟨h.globals.1.below hb, h.globals.2⟩⟩
end Go.Proofs.Ythlingholhjcnaa
namespace Go.Proofs.Ythlingholhjcnaa
open Go.RowKit

/-- What is owned lies on through a call that leaves all that lay. -/
theorem own_below {w w' : World} {base : Nat} {e : TypeId} {size : Nat} {v : Value} {n : Nat} {xs : List Value} (h : w.ownsRow base e size v n xs) (hb : Below w.heap.size w w') : w'.ownsRow base e size v n xs := by
  refine ⟨h.1, ?_⟩
  rcases h.2 with hn | ⟨g, cap, cur, hv, hge, hg, rest⟩
  · exact .inl hn
  · exact .inr ⟨g, cap, cur, hv, hge, (hb.block g (Array.getElem?_eq_some_iff.1 hg).1).trans hg, rest⟩

/-- The same at another bound. -/
theorem own_belowB {B : Nat} {w w' : World} {base : Nat} {e : TypeId} {size : Nat} {v : Value} {n : Nat} {xs : List Value} (h : w.ownsRow base e size v n xs) (hb : Below B w w') (hv : ∀ g, v.ownBlock = some g → g < B) : w'.ownsRow base e size v n xs := by
  refine ⟨h.1, ?_⟩
  rcases h.2 with hn | ⟨g, cap, cur, rfl, hge, hg, rest⟩
  · exact .inl hn
  · exact .inr ⟨g, cap, cur, rfl, hge, (hb.block g (hv g rfl)).trans hg, rest⟩

/-- The border may be set lower. -/
theorem own_lower {w : World} {base base' : Nat} {e : TypeId} {size : Nat} {v : Value} {n : Nat} {xs : List Value} (h : w.ownsRow base e size v n xs) (hb : base' ≤ base) : w.ownsRow base' e size v n xs := by
  refine ⟨h.1, ?_⟩
  rcases h.2 with hn | ⟨g, cap, cur, hv, hge, rest⟩
  · exact .inl hn
  · exact .inr ⟨g, cap, cur, hv, by omega, rest⟩

/-- The cells of an owned row, and that none is frozen. -/
theorem own_cell {w : World} {base : Nat} {e : TypeId} {size g n c : Nat} {xs : List Value} (h : w.ownsRow base e size (.slice (some ⟨g, 0, none⟩) n c) n xs) (i : Nat) (hi : i < xs.length) :
    w.cell? ⟨g, i, none⟩ = some xs[i] ∧ w.frozen? ⟨g, i, none⟩ = false := by
  refine ⟨?_, ?_⟩
  · have := h.cells (g := g) rfl i xs[i] (by simp [hi])
    rwa [addr_add, Nat.zero_add] at this
  · rcases h.2 with ⟨h0, _⟩ | ⟨g', cap', cur, hv, hg, hh, _⟩
    · cases h0
    · cases hv; exact frozen_of_row _ _ _ _ _ hh

theorem list_take_set {α : Type} (l : List α) (n i : Nat) (x : α) : (l.set i x).take n = (l.take n).set i x := by
  apply List.ext_getElem?
  intro j
  simp only [List.getElem?_take, List.getElem?_set, List.length_take]
  by_cases hj : j < n
  · by_cases hij : i = j
    · subst hij
      by_cases hl : i < l.length
      · simp [hj, hl, show i < min n l.length by omega]
      · simp [hj, hl, show ¬ i < min n l.length by omega]
    · simp [hj, hij]
  · by_cases hij : i = j
    · subst hij; simp [hj]; omega
    · simp [hj, hij]

/-- A store into an owned row. -/
theorem own_set {w : World} {base : Nat} {e : TypeId} {size g n c : Nat} {xs : List Value} (h : w.ownsRow base e size (.slice (some ⟨g, 0, none⟩) n c) n xs) (i : Nat) (u : Value) :
    (w.setCell ⟨g, i, none⟩ u).ownsRow base e size (.slice (some ⟨g, 0, none⟩) n c) n (xs.set i u) := by
  refine ⟨by rw [List.length_set]; exact h.1, ?_⟩
  rcases h.2 with ⟨h0, _⟩ | ⟨g', cap', cur, hv, hge, hh, hn, hcap, hsz, htake⟩
  · cases h0
  · cases hv
    refine .inr ⟨g, c, cur.setIfInBounds i u, rfl, hge, heap_setCell_same w g i cur e u hh, hn, hcap, by simpa using hsz, ?_⟩
    rw [Array.toList_setIfInBounds, list_take_set, htake]

/-- An owned row of more than no cells lies in a block. -/
theorem own_block {w : World} {base : Nat} {e : TypeId} {size : Nat} {v : Value} {n : Nat} {xs : List Value} (h : w.ownsRow base e size v n xs) (hn : 0 < n) : ∃ g c, v = .slice (some ⟨g, 0, none⟩) n c ∧ base ≤ g ∧ g < w.heap.size ∧ n ≤ c ∧ c ≤ maxLen := by
  rcases h.2 with ⟨_, h0⟩ | ⟨g, c, cur, hv, hge, hh, hnc, hcm, _⟩
  · omega
  · exact ⟨g, c, hv, hge, (Array.getElem?_eq_some_iff.1 hh).1, hnc, hcm⟩

/-- A store into a block leaves rows in other blocks. -/
theorem Row.set_other {w : World} {p : Option Addr} {cs : List Value} (h : Row w p cs) (a : Addr) (u : Value) (hne : ∀ q, p = some q → q.block ≠ a.block) : Row (w.setCell a u) p cs := by
  intro hcs
  obtain ⟨b, o, hp, hc⟩ := h hcs
  refine ⟨b, o, hp, fun i hi => ?_⟩
  rw [World.cell?_setCell_other]
  · exact hc i hi
  · intro e
    have := congrArg Addr.block e
    exact hne _ hp this.symm

/-- What is owned lies on where another block is stored into. -/
theorem own_setO {w : World} {base : Nat} {e : TypeId} {size : Nat} {v : Value} {n : Nat} {xs : List Value} (h : w.ownsRow base e size v n xs) (a : Addr) (u : Value) (hne : ∀ g, v.ownBlock = some g → g ≠ a.block) : (w.setCell a u).ownsRow base e size v n xs := by
  refine ⟨h.1, ?_⟩
  rcases h.2 with hn | ⟨g, cap, cur, rfl, hge, hg, rest⟩
  · exact .inl hn
  · exact .inr ⟨g, cap, cur, rfl, hge, (Below.heap_setCell w a u g (hne g rfl)).trans hg, rest⟩
theorem grown_frozen {w w' : World} {row : Option Nat} (hg : w.grownBy w' row) (a : Addr) (hlt : a.block < w.heap.size) (hne : some a.block ≠ row) : w'.frozen? a = w.frozen? a := World.frozen?_of_block (hg.block a.block hlt hne)

/-- A store into a newer block leaves rows as they lay. -/
theorem Row.set_lt {w0 w : World} {p : Option Addr} {cs : List Value} (h : Row w p cs) (h0 : Row w0 p cs) (a : Addr) (u : Value) (ha : w0.heap.size ≤ a.block) : Row (w.setCell a u) p cs := by
  intro hcs
  obtain ⟨b, o, rfl, hc⟩ := h hcs
  obtain ⟨b', o', e, hc'⟩ := h0 hcs
  cases e
  have hl : b < w0.heap.size := World.block_lt_of_cell? w0 _ (hc' 0 (by cases cs with | nil => exact absurd rfl hcs | cons a l => simp))
  refine ⟨b, o, rfl, fun i hi => ?_⟩
  rw [World.cell?_setCell_other]
  · exact hc i hi
  · intro e
    have := congrArg Addr.block e
    simp at this
    omega

/-- Zeros of one cell. -/
theorem made_one (z : Value) (n : Nat) (hz : z.cells = #[z]) : (madeCells z.cells (n * 1)).toList = List.replicate n z := by
  rw [hz]
  simp only [madeCells, Nat.mul_one]
  apply List.ext_getElem
  · simp
  · intro i h1 h2
    simp [Nat.mod_one]

/-- A list whose first k elements are f's, the rest z. -/
def fillTo {α : Type} (f : Nat → α) (z : α) (n k : Nat) : List α := (List.range n).map (fun j => if j < k then f j else z)
theorem fill_len {α : Type} (f : Nat → α) (z : α) (n k : Nat) : (fillTo f z n k).length = n := by simp [fillTo]
theorem fill_get {α : Type} (f : Nat → α) (z : α) (n k j : Nat) (h : j < n) : (fillTo f z n k)[j]'(by simp [fillTo, h]) = if j < k then f j else z := by simp [fillTo]
theorem fill_zero {α : Type} (f : Nat → α) (z : α) (n : Nat) : fillTo f z n 0 = List.replicate n z := by
  apply List.ext_getElem
  · simp [fillTo]
  · intro i h1 h2; simp [fillTo]
theorem fill_full {α : Type} (f : Nat → α) (z : α) (n : Nat) : fillTo f z n n = (List.range n).map f := by
  apply List.ext_getElem
  · simp [fillTo]
  · intro i h1 h2; simp [fillTo] at h1 ⊢; omega
theorem fill_set {α : Type} (f : Nat → α) (z : α) (n k : Nat) : (fillTo f z n k).set k (f k) = fillTo f z n (k + 1) := by
  apply List.ext_getElem
  · simp [fillTo]
  · intro i h1 h2
    simp only [fillTo, List.length_map, List.length_range] at h2
    rw [List.getElem_set]
    simp only [fillTo, List.getElem_map, List.getElem_range]
    by_cases hk : k = i
    · subst hk; simp
    · by_cases h3 : i < k
      · rw [if_neg hk, if_pos h3, if_pos (by omega)]
      · rw [if_neg hk, if_neg h3, if_neg (by omega)]
theorem fill_skip {α : Type} (f : Nat → α) (z : α) (n k : Nat) (h : f k = z) : fillTo f z n k = fillTo f z n (k + 1) := by
  apply List.ext_getElem
  · simp [fillTo]
  · intro i h1 h2
    simp only [fillTo, List.getElem_map, List.getElem_range]
    by_cases h3 : i < k
    · rw [if_pos h3, if_pos (by omega)]
    · by_cases hk : k = i
      · subst hk; rw [if_neg (by omega), if_pos (by omega), h]
      · rw [if_neg h3, if_neg (by omega)]
end Go.Proofs.Ythlingholhjcnaa
namespace Go.Proofs.Ythlingholhjcnaa
open Go.RowKit
variable {P : Program} {w : World} {t e : TypeId} {size bytes : Nat} {z : Value} {ops : Array Oper} {o : Oper} {a : Act} {K : Act → World → Prop} {Q : Exit → Act → World → Prop} {C : Prop}
theorem step_app (E : Elem P t e size bytes z) (hgd : o.guard = none) (s x : Operand)
    (ho : o.op = .call { callee := .builtin .append, args := #[s, x], argTypes := #[t, t] })
    (base : Nat) (v : Value) (n : Nat) (xs : List Value) (hs : a.eval s = v) (hown : w.ownsRow base e size v n xs)
    (ad : Addr) (m c : Nat) (news : List Value) (hx : a.eval x = .slice (some ad) m c) (hl : news.length = m * size) (hrow : Row w (some ad) news) (h1 : ∀ u ∈ news, u.oneCell' = true)
    (h63 : n + m ≤ maxLen) (hbytes : (n + m) * bytes ≤ 140737488355328) (hbase : base ≤ w.heap.size)
    (h : ∀ v' w', w'.ownsRow base e size v' (n + m) (xs ++ news) → w.grownBy w' v.ownBlock → Stayed w v v' → K (a.put o.dst v') w') :
    if Region.wanted o (yielded ops a.tmps) = true then Oper.wp P o a w K Q else C := by
  have hw : Region.wanted o (yielded ops a.tmps) = true := by simp [Region.wanted, hgd]
  rw [if_pos hw]
  obtain ⟨i, hi, hz, hsz, hby⟩ := E.info
  have hnews : ∀ j u, news[j]? = some u → w.cell? (ad.add j) = some u := by
    intro j u hj
    have hjl : j < news.length := (List.getElem?_eq_some_iff.1 hj).1
    obtain ⟨b, o, e1, hc⟩ := hrow (by intro e1; rw [e1] at hjl; simp at hjl)
    cases e1
    rw [addr_add, hc j hjl]
    rw [List.getElem?_eq_getElem hjl] at hj
    exact hj
  obtain ⟨v', w', hr, h2, h3, _⟩ := run_append_own (P := P) w base t o.type e i z size bytes E.desc hi hz hsz hby E.cells E.pos v n xs hown ad m c news hl hnews h1 h63 hbytes hbase
  have h4 := app_stayed E o.type base v n xs hown ad m c news hl hnews h1 h63 hbytes hr
  unfold Oper.wp execOp
  simp only [ho, resolve, invoke, builtin, Sem.run_bind, Sem.run_pure, Result.andThen_ok, List.map_toArray, List.map_cons, List.map_nil, hs, hx, hr]
  exact h v' w' h2 h3 h4
theorem step_appO (E : Elem P t e size bytes z) (hgd : o.guard = none) (s x : Operand)
    (ho : o.op = .call { callee := .builtin .append, args := #[s, x], argTypes := #[t, t] })
    (base : Nat) (v : Value) (n : Nat) (xs : List Value) (hs : a.eval s = v) (hown : w.ownsRow base e size v n xs)
    (p : Option Addr) (m c : Nat) (news : List Value) (hx : a.eval x = .slice p m c) (hl : news.length = m * size) (hnil : p = none → c = 0) (hrow : Row w p news) (h1 : ∀ u ∈ news, u.oneCell' = true)
    (h63 : n + m ≤ maxLen) (hbytes : (n + m) * bytes ≤ 140737488355328) (hbase : base ≤ w.heap.size)
    (h : ∀ v' w', w'.ownsRow base e size v' (n + m) (xs ++ news) → w.grownBy w' v.ownBlock → Stayed w v v' → K (a.put o.dst v') w') :
    if Region.wanted o (yielded ops a.tmps) = true then Oper.wp P o a w K Q else C := by
  cases p with
  | some ad => exact step_app E hgd s x ho base v n xs hs hown ad m c news hx hl hrow h1 h63 hbytes hbase h
  | none =>
    have hw : Region.wanted o (yielded ops a.tmps) = true := by simp [Region.wanted, hgd]
    rw [if_pos hw]
    obtain ⟨i, hi, hz, hsz, hby⟩ := E.info
    have hc : c = 0 := hnil rfl
    subst hc
    have hn : news = [] := by
      apply Classical.byContradiction
      intro hne
      obtain ⟨b, o, e1, _⟩ := hrow hne
      cases e1
    subst hn
    have hm : m = 0 := by
      have := E.pos
      have hl' : 0 = m * size := hl
      rcases Nat.mul_eq_zero.1 hl'.symm with h0 | h0
      · exact h0
      · omega
    subst hm
    have hr := run_append_owned_none (P := P) (w := w) base t o.type e i size E.desc hi v n xs hown
    unfold Oper.wp execOp
    simp only [ho, resolve, invoke, builtin, Sem.run_bind, Sem.run_pure, Result.andThen_ok, List.map_toArray, List.map_cons, List.map_nil, hs, hx, hr]
    exact h v w (by simpa using hown) (World.grownBy.refl _ _) (fun g hg => .inl hg)
end Go.Proofs.Ythlingholhjcnaa
namespace Go.Proofs.Ythlingholhjcnaa
open Go.RowKit

/-! ### Plain words -/
structure Pc where
  kind : Int
  file : Int
  line : Int
  name : ByteArray
  opers : List Oc
  v : Vv
  size : Int
  b : List Int
  align : Int
def PcR.pl (x : PcR) : Pc := ⟨x.kind, x.file, x.line, x.l.name, x.l.opers.l, x.v, x.size, x.b.l, x.align⟩
structure Pt where
  name : ByteArray
  file : Int
  line : Int
  pieces : List Pc
def PtR.pl (y : PtR) : Pt := ⟨y.name, y.file, y.line, y.pieces.l.map PcR.pl⟩
structure Ft where
  file : Int
  line : Int
  err : Int
  deriving DecidableEq
def Ft.cells (f : Ft) : List Value := [.int .i64 f.file, .int .i64 f.line, .int .i64 f.err]

/-! ### Blocks by their kinds -/
def tagO : Obj → Nat
  | .cells _ T _ => T + 1
  | _ => 0
def tagAt (W : World) (b : Nat) : Option Nat := (W.heap[b]?).map tagO
variable {W W' w w' : World} {base : Nat}
theorem tag_ne {a b x y : Nat} (ha : tagAt W a = some x) (hb : tagAt W b = some y) (h : x ≠ y) : a ≠ b := fun e => by
  subst e; rw [ha] at hb; exact h (Option.some.inj hb)
theorem tag_lt {b x : Nat} (h : tagAt W b = some x) : b < W.heap.size := by
  unfold tagAt at h
  cases e : W.heap[b]? with
  | none => rw [e] at h; cases h
  | some o => exact (Array.getElem?_eq_some_iff.1 e).1
theorem tag_blk {b x : Nat} (h : tagAt W b = some x) (hk : W'.heap[b]? = W.heap[b]?) : tagAt W' b = some x := by unfold tagAt at h ⊢; rw [hk]; exact h
theorem tag_row {b : Nat} {cur : Array Value} {e : TypeId} {fz : Nat × Nat} (h : W.heap[b]? = some (.cells cur e fz)) : tagAt W b = some (e + 1) := by unfold tagAt; rw [h]; rfl
theorem own_tag {e : TypeId} {size n g : Nat} {v : Value} {xs : List Value} (h : W.ownsRow base e size v n xs) (hg : v.ownBlock = some g) : tagAt W g = some (e + 1) := by
  rcases h.2 with ⟨rfl, _⟩ | ⟨g', cap, cur, rfl, _, hh, _⟩
  · cases hg
  · have : g' = g := by simpa [Value.ownBlock] using hg
    subst this
    exact tag_row hh
theorem map_tag {κ β : Type} {mk : κ → Value} {mv : β → Value} {b : Nat} {m : List (κ × β)} (h : MapIs mk mv W b m) : tagAt W b = some 0 := by
  obtain ⟨es, c, hb, _⟩ := h
  unfold tagAt; rw [hb]; rfl
theorem own_blk {e : TypeId} {size n : Nat} {v : Value} {xs : List Value} (h : w.ownsRow base e size v n xs) (hk : ∀ g, v.ownBlock = some g → w'.heap[g]? = w.heap[g]?) : w'.ownsRow base e size v n xs := by
  refine ⟨h.1, ?_⟩
  rcases h.2 with hn' | ⟨g, cap, cur, rfl, hge, hg, rest⟩
  · exact .inl hn'
  · exact .inr ⟨g, cap, cur, rfl, hge, (hk g rfl).trans hg, rest⟩
theorem row_blk {p : Option Addr} {cs : List Value} (h : Row W p cs) (hk : ∀ q, p = some q → W'.heap[q.block]? = W.heap[q.block]?) : Row W' p cs := by
  intro hne
  obtain ⟨b, o, rfl, hc⟩ := h hne
  exact ⟨b, o, rfl, fun i hi => (World.cell?_of_block (a := ⟨b, o + i, none⟩) (hk ⟨b, o, none⟩ rfl)).trans (hc i hi)⟩
theorem grown_undrew {w w1 : World} {row : Option Nat} (h : w.drew.grownBy w1 row) : w.grownBy w1 row := by
  obtain ⟨a, b, c, d, e⟩ := h
  exact ⟨a, b, c, d, e⟩
/-- Blocks of the kinds of P lie on, and those below base. -/
structure Lies (base : Nat) (P : Nat → Prop) (W W' : World) : Prop where
  tag : ∀ b x, tagAt W b = some x → P x → W'.heap[b]? = W.heap[b]?
  low : ∀ b, b < base → W'.heap[b]? = W.heap[b]?
  size : W.heap.size ≤ W'.heap.size
theorem Lies.refl (base : Nat) (P : Nat → Prop) (W : World) : Lies base P W W := ⟨fun _ _ _ _ => rfl, fun _ _ => rfl, Nat.le_refl _⟩
theorem Lies.trans {P : Nat → Prop} {W1 W2 W3 : World} (h : Lies base P W1 W2) (h2 : Lies base P W2 W3) : Lies base P W1 W3 :=
  ⟨fun b x hb hp => (h2.tag b x (tag_blk hb (h.tag b x hb hp)) hp).trans (h.tag b x hb hp), fun b hb => (h2.low b hb).trans (h.low b hb), Nat.le_trans h.size h2.size⟩
theorem Lies.mono {P Q : Nat → Prop} (h : Lies base P W W') (hq : ∀ x, Q x → P x) : Lies base Q W W' := ⟨fun b x hb hx => h.tag b x hb (hq x hx), h.low, h.size⟩
theorem Lies.below (P : Nat → Prop) (hb : Below W.heap.size W W') (hz : base ≤ W.heap.size) : Lies base P W W' := ⟨fun b x ht _ => hb.block b (tag_lt ht), fun b h => hb.block b (by omega), hb.size⟩
/-- A write into a block of a kind that P has not. -/
theorem Lies.grown {P : Nat → Prop} {row : Option Nat} {x : Nat} (hg : W.grownBy W' row) (hr : ∀ g, row = some g → tagAt W g = some x ∧ base ≤ g) (hx : ¬ P x) (hz : base ≤ W.heap.size) : Lies base P W W' :=
  ⟨fun b y hb hy => hg.block b (tag_lt hb) (fun e => by have h1 := (hr b e.symm).1; rw [hb] at h1; cases h1; exact hx hy), fun b hb => hg.block b (by omega) (fun e => by have h1 := (hr b e.symm).2; omega), hg.size⟩
theorem Lies.own {P : Nat → Prop} {e : TypeId} {size n : Nat} {v : Value} {xs : List Value} (h : Lies base P W W') (ho : W.ownsRow base e size v n xs) (hp : P (e + 1)) : W'.ownsRow base e size v n xs := own_blk ho (fun g hg => h.tag g _ (own_tag ho hg) hp)
theorem grown_set (w : World) (a : Addr) (v : Value) : w.grownBy (w.setCell a v) (some a.block) :=
  ⟨rfl, rfl, rfl, by simp, fun k _ hk => heap_setCell_other _ _ _ _ (fun e => hk (by rw [e]))⟩

/-! ### Units of their own -/
def isOB (x : Nat) : Prop := x = 72 + 1 ∨ x = 5 + 1
/-- A piece's slices can be read, and lie where nothing is written. -/
structure PcOk (W : World) (base : Nat) (x : PcR) : Prop where
  op : SlOk W Oc.cells 120 x.l.opers
  opl : ∀ a, x.l.opers.p = some a → a.block < base ∨ tagAt W a.block = some (72 + 1)
  b : SlOk W (fun n : Int => [Value.int .u8 n]) 1 x.b
  bl : ∀ a, x.b.p = some a → a.block < base ∨ tagAt W a.block = some (5 + 1)
theorem PcOk.lies {x : PcR} (h : PcOk W base x) (hl : Lies base isOB W W') : PcOk W' base x := by
  have k1 : ∀ a, x.l.opers.p = some a → W'.heap[a.block]? = W.heap[a.block]? := fun a ha => (h.opl a ha).elim (hl.low _) (fun ht => hl.tag _ _ ht (.inl rfl))
  have k2 : ∀ a, x.b.p = some a → W'.heap[a.block]? = W.heap[a.block]? := fun a ha => (h.bl a ha).elim (hl.low _) (fun ht => hl.tag _ _ ht (.inr rfl))
  exact ⟨⟨row_blk h.op.row k1, h.op.len, h.op.cap, h.op.nil⟩, fun a ha => (h.opl a ha).imp id (fun ht => tag_blk ht (k1 a ha)), ⟨row_blk h.b.row k2, h.b.len, h.b.cap, h.b.nil⟩, fun a ha => (h.bl a ha).imp id (fun ht => tag_blk ht (k2 a ha))⟩
/-- A unit and its faults as they are being put together. -/
structure FV where
  pv : Value
  mv : Value
  gv : Value
  fv : Value
  ps : List PtR
  ms : List Mk
  gs : List Td
  fs : List Ft
def own3 (x : Nat) : Prop := x = 50 + 1 ∨ x = 64 + 1 ∨ x = 81 + 1 ∨ x = 90 + 1 ∨ x = 42 + 1
structure FIs (W : World) (base : Nat) (X : FV) : Prop where
  parts : W.ownsRow base 50 4 X.pv X.ps.length (X.ps.flatMap PtR.cells)
  pcs : ∀ (i : Nat) (y : PtR), X.ps[i]? = some y → W.ownsRow base 64 11 y.pieces.val y.pieces.l.length (y.pieces.l.flatMap PcR.cells)
  apart : ∀ (i j : Nat) (y z : PtR), i ≠ j → X.ps[i]? = some y → X.ps[j]? = some z → Apart y.pieces.val z.pieces.val
  pok : ∀ y ∈ X.ps, ∀ x ∈ y.pieces.l, PcOk W base x
  marks : W.ownsRow base 81 9 X.mv X.ms.length (X.ms.flatMap Mk.cells)
  globals : W.ownsRow base 90 3 X.gv X.gs.length (X.gs.flatMap Td.cells)
  faults : W.ownsRow base 42 3 X.fv X.fs.length (X.fs.flatMap Ft.cells)
def nil0 : FV := ⟨.slice none 0 0, .slice none 0 0, .slice none 0 0, .slice none 0 0, [], [], [], []⟩
theorem FIs.nil (W : World) (base : Nat) : FIs W base nil0 :=
  ⟨World.ownsRow_nil _ _ _ _, fun i y h => (by simp [nil0] at h), fun i j y z _ h => (by simp [nil0] at h), fun y h => (by simp [nil0] at h), World.ownsRow_nil _ _ _ _, World.ownsRow_nil _ _ _ _, World.ownsRow_nil _ _ _ _⟩
variable {X : FV}
theorem FIs.lies (h : FIs W base X) (hl : Lies base (fun x => own3 x ∨ isOB x) W W') : FIs W' base X :=
  ⟨hl.own h.parts (.inl (.inl rfl)), fun i y hy => hl.own (h.pcs i y hy) (.inl (.inr (.inl rfl))), h.apart, fun y hy x hx => (h.pok y hy x hx).lies (hl.mono fun _ h => .inr h),
   hl.own h.marks (.inl (.inr (.inr (.inl rfl)))), hl.own h.globals (.inl (.inr (.inr (.inr (.inl rfl))))), hl.own h.faults (.inl (.inr (.inr (.inr (.inr rfl)))))⟩
theorem flat_snoc {α : Type} (f : α → List Value) (l : List α) (x : α) : (l ++ [x]).flatMap f = l.flatMap f ++ f x := by simp
/-- A mark more. -/
theorem FIs.addMark (h : FIs W base X) (hz : base ≤ W.heap.size) {v' : Value} (k : Mk) (ho : W'.ownsRow base 81 9 v' (X.ms.length + 1) (X.ms.flatMap Mk.cells ++ k.cells)) (hg : W.grownBy W' X.mv.ownBlock) : FIs W' base { X with mv := v', ms := X.ms ++ [k] } := by
  have hl : Lies base (fun x => x ≠ 81 + 1) W W' := Lies.grown hg (fun g hgg => ⟨own_tag h.marks hgg, own_ge h.marks g hgg⟩) (fun hn => hn rfl) hz
  refine ⟨hl.own h.parts (by decide), fun i y hy => hl.own (h.pcs i y hy) (by decide), h.apart, fun y hy x hx => (h.pok y hy x hx).lies (hl.mono ?_), ?_, hl.own h.globals (by decide), hl.own h.faults (by decide)⟩
  · rintro x (rfl | rfl) <;> decide
  · show W'.ownsRow base 81 9 v' (X.ms ++ [k]).length ((X.ms ++ [k]).flatMap Mk.cells)
    rw [flat_snoc, List.length_append]; exact ho
theorem FIs.addTold (h : FIs W base X) (hz : base ≤ W.heap.size) {v' : Value} (k : Td) (ho : W'.ownsRow base 90 3 v' (X.gs.length + 1) (X.gs.flatMap Td.cells ++ k.cells)) (hg : W.grownBy W' X.gv.ownBlock) : FIs W' base { X with gv := v', gs := X.gs ++ [k] } := by
  have hl : Lies base (fun x => x ≠ 90 + 1) W W' := Lies.grown hg (fun g hgg => ⟨own_tag h.globals hgg, own_ge h.globals g hgg⟩) (fun hn => hn rfl) hz
  refine ⟨hl.own h.parts (by decide), fun i y hy => hl.own (h.pcs i y hy) (by decide), h.apart, fun y hy x hx => (h.pok y hy x hx).lies (hl.mono ?_), hl.own h.marks (by decide), ?_, hl.own h.faults (by decide)⟩
  · rintro x (rfl | rfl) <;> decide
  · show W'.ownsRow base 90 3 v' (X.gs ++ [k]).length ((X.gs ++ [k]).flatMap Td.cells)
    rw [flat_snoc, List.length_append]; exact ho
theorem FIs.addFault (h : FIs W base X) (hz : base ≤ W.heap.size) {v' : Value} (k : Ft) (ho : W'.ownsRow base 42 3 v' (X.fs.length + 1) (X.fs.flatMap Ft.cells ++ k.cells)) (hg : W.grownBy W' X.fv.ownBlock) : FIs W' base { X with fv := v', fs := X.fs ++ [k] } := by
  have hl : Lies base (fun x => x ≠ 42 + 1) W W' := Lies.grown hg (fun g hgg => ⟨own_tag h.faults hgg, own_ge h.faults g hgg⟩) (fun hn => hn rfl) hz
  refine ⟨hl.own h.parts (by decide), fun i y hy => hl.own (h.pcs i y hy) (by decide), h.apart, fun y hy x hx => (h.pok y hy x hx).lies (hl.mono ?_), hl.own h.marks (by decide), hl.own h.globals (by decide), ?_⟩
  · rintro x (rfl | rfl) <;> decide
  · show W'.ownsRow base 42 3 v' (X.fs ++ [k]).length ((X.fs ++ [k]).flatMap Ft.cells)
    rw [flat_snoc, List.length_append]; exact ho
theorem get_snoc {α : Type} {l : List α} {x y : α} {i : Nat} (h : (l ++ [x])[i]? = some y) : l[i]? = some y ∧ i < l.length ∨ i = l.length ∧ y = x := by
  rcases Nat.lt_trichotomy i l.length with g | g | g
  · rw [List.getElem?_append_left g] at h; exact .inl ⟨h, g⟩
  · subst g
    rw [List.getElem?_append_right (Nat.le_refl _), Nat.sub_self] at h
    cases h; exact .inr ⟨rfl, rfl⟩
  · rw [List.getElem?_append_right (by omega), List.getElem?_eq_none (by simp; omega)] at h; cases h
/-- A part more, with no piece. -/
theorem FIs.addPart (h : FIs W base X) (hz : base ≤ W.heap.size) {v' : Value} (y : PtR) (hy0 : y.pieces = ⟨none, 0, []⟩) (ho : W'.ownsRow base 50 4 v' (X.ps.length + 1) (X.ps.flatMap PtR.cells ++ y.cells)) (hg : W.grownBy W' X.pv.ownBlock) : FIs W' base { X with pv := v', ps := X.ps ++ [y] } := by
  have hl : Lies base (fun x => x ≠ 50 + 1) W W' := Lies.grown hg (fun g hgg => ⟨own_tag h.parts hgg, own_ge h.parts g hgg⟩) (fun hn => hn rfl) hz
  have hnil : y.pieces.val.ownBlock = none := by rw [hy0]; rfl
  refine ⟨?_, fun i z hi => ?_, fun i j a b hij hi hj => ?_, fun z hz2 x hx => ?_, hl.own h.marks (by decide), hl.own h.globals (by decide), hl.own h.faults (by decide)⟩
  · show W'.ownsRow base 50 4 v' (X.ps ++ [y]).length ((X.ps ++ [y]).flatMap PtR.cells)
    rw [flat_snoc, List.length_append]; exact ho
  · rcases get_snoc hi with ⟨h1, _⟩ | ⟨_, rfl⟩
    · exact hl.own (h.pcs i z h1) (by decide)
    · rw [hy0]; exact World.ownsRow_nil _ _ _ _
  · rcases get_snoc hi with ⟨h1, _⟩ | ⟨_, rfl⟩
    · rcases get_snoc hj with ⟨h2, _⟩ | ⟨_, rfl⟩
      · exact h.apart i j a b hij h1 h2
      · intro g hgg e; rw [hnil] at e; cases e
    · intro g hgg; rw [hnil] at hgg; cases hgg
  · rcases List.mem_append.1 hz2 with h1 | h1
    · exact (h.pok z h1 x hx).lies (hl.mono (by rintro x (rfl | rfl) <;> decide))
    · rw [List.mem_singleton.1 h1, hy0] at hx; cases hx
theorem flat_set {α : Type} (f : α → List Value) (k : Nat) (hk : ∀ x, (f x).length = k) : ∀ (l : List α) (i : Nat) (hi : i < l.length) (j : Nat) (v : Value) (y : α), j < k → f y = (f l[i]).set j v → (l.flatMap f).set (i * k + j) v = (l.set i y).flatMap f
  | x :: l, 0, _, j, v, y, hj, hy => by
    rw [List.flatMap_cons, Nat.zero_mul, Nat.zero_add, List.set_append_left _ _ (by rw [hk]; exact hj), List.set_cons_zero, List.flatMap_cons, hy]; rfl
  | x :: l, i + 1, hi, j, v, y, hj, hy => by
    rw [List.flatMap_cons, List.set_append_right _ _ (by rw [hk, Nat.add_mul]; omega), hk, List.set_cons_succ, List.flatMap_cons, show (i + 1) * k + j - k = i * k + j from by rw [Nat.add_mul]; omega, flat_set f k hk l i (by simpa using hi) j v y hj hy]
/-- A piece more in a part: behind the append, and the store of its slice. -/
theorem FIs.addPiece (h : FIs W base X) (hz : base ≤ W.heap.size) {i : Nat} {y : PtR} (hi : X.ps[i]? = some y) {g c : Nat} (hpv : X.pv = .slice (some ⟨g, 0, none⟩) X.ps.length c) {p' : Option Addr} {c' : Nat} (x : PcR)
    (ho : W'.ownsRow base 64 11 (.slice p' (y.pieces.l.length + 1) c') (y.pieces.l.length + 1) (y.pieces.l.flatMap PcR.cells ++ x.cells)) (hg : W.grownBy W' y.pieces.val.ownBlock) (hs : Stayed W y.pieces.val (.slice p' (y.pieces.l.length + 1) c')) (hx : PcOk W base x) :
    FIs (W'.setCell ⟨g, i * 4 + 3, none⟩ (.slice p' (y.pieces.l.length + 1) c')) base { X with ps := X.ps.set i { y with pieces := ⟨p', c', y.pieces.l ++ [x]⟩ } } := by
  have hil := (List.getElem?_eq_some_iff.1 hi).1
  have hig := (List.getElem?_eq_some_iff.1 hi).2
  have hyo := h.pcs i y hi
  have hl : Lies base (fun x => x ≠ 64 + 1) W W' := Lies.grown hg (fun g hgg => ⟨own_tag hyo hgg, own_ge hyo g hgg⟩) (fun hn => hn rfl) hz
  have hpo := hl.own h.parts (by decide)
  rw [hpv] at hpo
  have htg : tagAt W' g = some (50 + 1) := own_tag hpo rfl
  have hge : base ≤ g := own_ge hpo g rfl
  have hl2 : Lies base (fun x => x ≠ 50 + 1) W' (W'.setCell ⟨g, i * 4 + 3, none⟩ (.slice p' (y.pieces.l.length + 1) c')) := Lies.grown (grown_set _ _ _) (fun b hb => by cases hb; exact ⟨htg, hge⟩) (fun hn => hn rfl) (Nat.le_trans hz hl.size)
  have hlp : Lies base isOB W (W'.setCell ⟨g, i * 4 + 3, none⟩ (.slice p' (y.pieces.l.length + 1) c')) := (hl.mono (by rintro x (rfl | rfl) <;> decide)).trans (hl2.mono (by rintro x (rfl | rfl) <;> decide))
  have hset : ∀ j z, (X.ps.set i { y with pieces := ⟨p', c', y.pieces.l ++ [x]⟩ })[j]? = some z → (j = i ∧ z = { y with pieces := ⟨p', c', y.pieces.l ++ [x]⟩ }) ∨ (j ≠ i ∧ X.ps[j]? = some z) := fun j z hj => by
    by_cases e : i = j
    · subst e; rw [List.getElem?_set_self hil] at hj; cases hj; exact .inl ⟨rfl, rfl⟩
    · rw [List.getElem?_set_ne e] at hj; exact .inr ⟨fun e2 => e e2.symm, hj⟩
  have hnew : (⟨p', c', y.pieces.l ++ [x]⟩ : Sl PcR).val = .slice p' (y.pieces.l.length + 1) c' := by show Value.slice _ (y.pieces.l ++ [x]).length _ = _; rw [List.length_append]; rfl
  have hap : ∀ j z, j ≠ i → X.ps[j]? = some z → Apart (.slice p' (y.pieces.l.length + 1) c') z.pieces.val := fun j z hji hj =>
    Apart.stayed (h.apart i j y z (Ne.symm hji) hi hj) hs (own_lt (h.pcs j z hj))
  refine ⟨?_, fun j z hj => ?_, fun j k a b hjk hj hk => ?_, fun z hz2 q hq => ?_, hl2.own (hl.own h.marks (by decide)) (by decide), hl2.own (hl.own h.globals (by decide)) (by decide), hl2.own (hl.own h.faults (by decide)) (by decide)⟩
  · have h4 := own_set hpo (i * 4 + 3) (.slice p' (y.pieces.l.length + 1) c')
    show (W'.setCell _ _).ownsRow base 50 4 X.pv (X.ps.set i _).length ((X.ps.set i _).flatMap PtR.cells)
    rw [List.length_set, hpv, ← flat_set PtR.cells 4 (fun _ => rfl) X.ps i hil 3 (.slice p' (y.pieces.l.length + 1) c') { y with pieces := ⟨p', c', y.pieces.l ++ [x]⟩ } (by decide) (by rw [hig]; show [_, _, _, _] = [_, _, _, _]; rw [hnew])]
    exact h4
  · rcases hset j z hj with ⟨rfl, rfl⟩ | ⟨hji, hj2⟩
    · show (W'.setCell _ _).ownsRow base 64 11 (⟨p', c', y.pieces.l ++ [x]⟩ : Sl PcR).val (y.pieces.l ++ [x]).length ((y.pieces.l ++ [x]).flatMap PcR.cells)
      rw [hnew, flat_snoc, List.length_append]
      exact hl2.own ho (by decide)
    · refine hl2.own ?_ (by decide)
      refine own_blk (h.pcs j z hj2) (fun b hb => hg.block b (own_lt (h.pcs j z hj2) b hb) (fun e => ?_))
      exact h.apart i j y z (Ne.symm hji) hi hj2 b e.symm hb
  · rcases hset j a hj with ⟨rfl, rfl⟩ | ⟨hji, hj2⟩
    · rcases hset k b hk with ⟨rfl, _⟩ | ⟨hki, hk2⟩
      · exact absurd rfl hjk
      · show Apart (⟨p', c', y.pieces.l ++ [x]⟩ : Sl PcR).val _
        rw [hnew]; exact hap k b hki hk2
    · rcases hset k b hk with ⟨rfl, rfl⟩ | ⟨hki, hk2⟩
      · show Apart _ (⟨p', c', y.pieces.l ++ [x]⟩ : Sl PcR).val
        rw [hnew]; exact (hap j a hji hj2).symm
      · exact h.apart j k a b hjk hj2 hk2
  · obtain ⟨j, hj⟩ := List.getElem?_of_mem hz2
    rcases hset j z hj with ⟨rfl, rfl⟩ | ⟨hji, hj2⟩
    · have hq : q ∈ y.pieces.l ++ [x] := hq
      rcases List.mem_append.1 hq with h1 | h1
      · exact (h.pok y (List.mem_of_getElem? hi) q h1).lies hlp
      · rw [List.mem_singleton.1 h1]; exact hx.lies hlp
    · exact (h.pok z (List.mem_of_getElem? hj2) q hq).lies hlp
end Go.Proofs.Ythlingholhjcnaa
namespace Go.Proofs.Ythlingholhjcnaa
open Go.RowKit
variable {w : World} {b o : Nat}
theorem row_cells {α : Type} (f : α → List Value) (k : Nat) (hk : ∀ x, (f x).length = k) {l : List α} (h : Row w (some ⟨b, o, none⟩) (l.flatMap f)) (i : Nat) (hi : i < l.length) (j : Nat) (hj : j < k) : w.cell? ⟨b, o + i * k + j, none⟩ = (f l[i])[j]? := by
  have hl := flat_len f k hk l
  have h1 : k * i + j < (l.flatMap f).length := by
    rw [hl]
    have : k * (i + 1) ≤ k * l.length := Nat.mul_le_mul_left k hi
    rw [Nat.mul_add] at this
    have e : l.length * k = k * l.length := Nat.mul_comm _ _
    omega
  have h2 := h.cell (k * i + j) h1
  have h3 := flat_get f k hk l i hi j hj
  rw [List.getElem?_eq_getElem h1] at h3
  rw [show o + i * k + j = o + (k * i + j) from by rw [Nat.mul_comm i k]; omega, h2, ← h3]
theorem vv_cells {ys : List Vv} (h : Row w (some ⟨b, o, none⟩) (ys.flatMap Vv.cells)) (k : Nat) (hk : k < ys.length) :
    w.cell? ⟨b, o + k * 3, none⟩ = some (.int .i64 ys[k].add) ∧
    w.cell? ⟨b, o + k * 3 + 1, none⟩ = some (.string ys[k].plus) ∧
    w.cell? ⟨b, o + k * 3 + 2, none⟩ = some (.string ys[k].minus) :=
  ⟨row_cells Vv.cells 3 (fun _ => rfl) h k hk 0 (by decide), row_cells Vv.cells 3 (fun _ => rfl) h k hk 1 (by decide), row_cells Vv.cells 3 (fun _ => rfl) h k hk 2 (by decide)⟩
theorem vv_ones (x : Vv) : ∀ u ∈ x.cells, u.oneCell' = true := fun u hu => by
  simp [Vv.cells, Sl.val] at hu
  rcases hu with rfl | rfl | rfl <;> rfl
theorem oc_cells {ys : List Oc} (h : Row w (some ⟨b, o, none⟩) (ys.flatMap Oc.cells)) (k : Nat) (hk : k < ys.length) :
    w.cell? ⟨b, o + k * 15, none⟩ = some (.int .i64 ys[k].kind) ∧
    w.cell? ⟨b, o + k * 15 + 1, none⟩ = some (.int .i64 ys[k].r.n) ∧
    w.cell? ⟨b, o + k * 15 + 2, none⟩ = some (.bool ys[k].r.x) ∧
    w.cell? ⟨b, o + k * 15 + 3, none⟩ = some (.bool ys[k].r.sp) ∧
    w.cell? ⟨b, o + k * 15 + 4, none⟩ = some (.int .i64 ys[k].m.n) ∧
    w.cell? ⟨b, o + k * 15 + 5, none⟩ = some (.bool ys[k].m.x) ∧
    w.cell? ⟨b, o + k * 15 + 6, none⟩ = some (.bool ys[k].m.sp) ∧
    w.cell? ⟨b, o + k * 15 + 7, none⟩ = some (.int .i64 ys[k].mod) ∧
    w.cell? ⟨b, o + k * 15 + 8, none⟩ = some (.int .i64 ys[k].amt) ∧
    w.cell? ⟨b, o + k * 15 + 9, none⟩ = some (.int .i64 ys[k].n) ∧
    w.cell? ⟨b, o + k * 15 + 10, none⟩ = some (.int .i64 ys[k].v.add) ∧
    w.cell? ⟨b, o + k * 15 + 11, none⟩ = some (.string ys[k].v.plus) ∧
    w.cell? ⟨b, o + k * 15 + 12, none⟩ = some (.string ys[k].v.minus) ∧
    w.cell? ⟨b, o + k * 15 + 13, none⟩ = some (.bool ys[k].lo) ∧
    w.cell? ⟨b, o + k * 15 + 14, none⟩ = some (.int .i64 ys[k].mode) :=
  ⟨row_cells Oc.cells 15 (fun _ => rfl) h k hk 0 (by decide), row_cells Oc.cells 15 (fun _ => rfl) h k hk 1 (by decide), row_cells Oc.cells 15 (fun _ => rfl) h k hk 2 (by decide), row_cells Oc.cells 15 (fun _ => rfl) h k hk 3 (by decide), row_cells Oc.cells 15 (fun _ => rfl) h k hk 4 (by decide), row_cells Oc.cells 15 (fun _ => rfl) h k hk 5 (by decide), row_cells Oc.cells 15 (fun _ => rfl) h k hk 6 (by decide), row_cells Oc.cells 15 (fun _ => rfl) h k hk 7 (by decide), row_cells Oc.cells 15 (fun _ => rfl) h k hk 8 (by decide), row_cells Oc.cells 15 (fun _ => rfl) h k hk 9 (by decide), row_cells Oc.cells 15 (fun _ => rfl) h k hk 10 (by decide), row_cells Oc.cells 15 (fun _ => rfl) h k hk 11 (by decide), row_cells Oc.cells 15 (fun _ => rfl) h k hk 12 (by decide), row_cells Oc.cells 15 (fun _ => rfl) h k hk 13 (by decide), row_cells Oc.cells 15 (fun _ => rfl) h k hk 14 (by decide)⟩
theorem oc_ones (x : Oc) : ∀ u ∈ x.cells, u.oneCell' = true := fun u hu => by
  simp [Oc.cells, Sl.val] at hu
  rcases hu with rfl | rfl | rfl | rfl | rfl | rfl | rfl | rfl | rfl | rfl | rfl | rfl | rfl | rfl | rfl <;> rfl
theorem rwr_cells {ys : List RwR} (h : Row w (some ⟨b, o, none⟩) (ys.flatMap RwR.cells)) (k : Nat) (hk : k < ys.length) :
    w.cell? ⟨b, o + k * 9, none⟩ = some (.int .i64 ys[k].line) ∧
    w.cell? ⟨b, o + k * 9 + 1, none⟩ = some (ys[k].s.labels.val) ∧
    w.cell? ⟨b, o + k * 9 + 2, none⟩ = some (.int .i64 ys[k].s.kind) ∧
    w.cell? ⟨b, o + k * 9 + 3, none⟩ = some (.string ys[k].s.l.name) ∧
    w.cell? ⟨b, o + k * 9 + 4, none⟩ = some (ys[k].s.l.opers.val) ∧
    w.cell? ⟨b, o + k * 9 + 5, none⟩ = some (ys[k].s.names.val) ∧
    w.cell? ⟨b, o + k * 9 + 6, none⟩ = some (.int .i64 ys[k].s.size) ∧
    w.cell? ⟨b, o + k * 9 + 7, none⟩ = some (ys[k].s.values.val) ∧
    w.cell? ⟨b, o + k * 9 + 8, none⟩ = some (ys[k].s.bytes.val) :=
  ⟨row_cells RwR.cells 9 (fun _ => rfl) h k hk 0 (by decide), row_cells RwR.cells 9 (fun _ => rfl) h k hk 1 (by decide), row_cells RwR.cells 9 (fun _ => rfl) h k hk 2 (by decide), row_cells RwR.cells 9 (fun _ => rfl) h k hk 3 (by decide), row_cells RwR.cells 9 (fun _ => rfl) h k hk 4 (by decide), row_cells RwR.cells 9 (fun _ => rfl) h k hk 5 (by decide), row_cells RwR.cells 9 (fun _ => rfl) h k hk 6 (by decide), row_cells RwR.cells 9 (fun _ => rfl) h k hk 7 (by decide), row_cells RwR.cells 9 (fun _ => rfl) h k hk 8 (by decide)⟩
theorem pcr_cells {ys : List PcR} (h : Row w (some ⟨b, o, none⟩) (ys.flatMap PcR.cells)) (k : Nat) (hk : k < ys.length) :
    w.cell? ⟨b, o + k * 11, none⟩ = some (.int .i64 ys[k].kind) ∧
    w.cell? ⟨b, o + k * 11 + 1, none⟩ = some (.int .i64 ys[k].file) ∧
    w.cell? ⟨b, o + k * 11 + 2, none⟩ = some (.int .i64 ys[k].line) ∧
    w.cell? ⟨b, o + k * 11 + 3, none⟩ = some (.string ys[k].l.name) ∧
    w.cell? ⟨b, o + k * 11 + 4, none⟩ = some (ys[k].l.opers.val) ∧
    w.cell? ⟨b, o + k * 11 + 5, none⟩ = some (.int .i64 ys[k].v.add) ∧
    w.cell? ⟨b, o + k * 11 + 6, none⟩ = some (.string ys[k].v.plus) ∧
    w.cell? ⟨b, o + k * 11 + 7, none⟩ = some (.string ys[k].v.minus) ∧
    w.cell? ⟨b, o + k * 11 + 8, none⟩ = some (.int .i64 ys[k].size) ∧
    w.cell? ⟨b, o + k * 11 + 9, none⟩ = some (ys[k].b.val) ∧
    w.cell? ⟨b, o + k * 11 + 10, none⟩ = some (.int .i64 ys[k].align) :=
  ⟨row_cells PcR.cells 11 (fun _ => rfl) h k hk 0 (by decide), row_cells PcR.cells 11 (fun _ => rfl) h k hk 1 (by decide), row_cells PcR.cells 11 (fun _ => rfl) h k hk 2 (by decide), row_cells PcR.cells 11 (fun _ => rfl) h k hk 3 (by decide), row_cells PcR.cells 11 (fun _ => rfl) h k hk 4 (by decide), row_cells PcR.cells 11 (fun _ => rfl) h k hk 5 (by decide), row_cells PcR.cells 11 (fun _ => rfl) h k hk 6 (by decide), row_cells PcR.cells 11 (fun _ => rfl) h k hk 7 (by decide), row_cells PcR.cells 11 (fun _ => rfl) h k hk 8 (by decide), row_cells PcR.cells 11 (fun _ => rfl) h k hk 9 (by decide), row_cells PcR.cells 11 (fun _ => rfl) h k hk 10 (by decide)⟩
theorem pcr_ones (x : PcR) : ∀ u ∈ x.cells, u.oneCell' = true := fun u hu => by
  simp [PcR.cells, Sl.val] at hu
  rcases hu with rfl | rfl | rfl | rfl | rfl | rfl | rfl | rfl | rfl | rfl | rfl <;> rfl
theorem ptr_cells {ys : List PtR} (h : Row w (some ⟨b, o, none⟩) (ys.flatMap PtR.cells)) (k : Nat) (hk : k < ys.length) :
    w.cell? ⟨b, o + k * 4, none⟩ = some (.string ys[k].name) ∧
    w.cell? ⟨b, o + k * 4 + 1, none⟩ = some (.int .i64 ys[k].file) ∧
    w.cell? ⟨b, o + k * 4 + 2, none⟩ = some (.int .i64 ys[k].line) ∧
    w.cell? ⟨b, o + k * 4 + 3, none⟩ = some (ys[k].pieces.val) :=
  ⟨row_cells PtR.cells 4 (fun _ => rfl) h k hk 0 (by decide), row_cells PtR.cells 4 (fun _ => rfl) h k hk 1 (by decide), row_cells PtR.cells 4 (fun _ => rfl) h k hk 2 (by decide), row_cells PtR.cells 4 (fun _ => rfl) h k hk 3 (by decide)⟩
theorem ptr_ones (x : PtR) : ∀ u ∈ x.cells, u.oneCell' = true := fun u hu => by
  simp [PtR.cells, Sl.val] at hu
  rcases hu with rfl | rfl | rfl | rfl <;> rfl
theorem mk_cells {ys : List Mk} (h : Row w (some ⟨b, o, none⟩) (ys.flatMap Mk.cells)) (k : Nat) (hk : k < ys.length) :
    w.cell? ⟨b, o + k * 9, none⟩ = some (.string ys[k].name) ∧
    w.cell? ⟨b, o + k * 9 + 1, none⟩ = some (.int .i64 ys[k].file) ∧
    w.cell? ⟨b, o + k * 9 + 2, none⟩ = some (.int .i64 ys[k].line) ∧
    w.cell? ⟨b, o + k * 9 + 3, none⟩ = some (.int .i64 ys[k].part) ∧
    w.cell? ⟨b, o + k * 9 + 4, none⟩ = some (.int .i64 ys[k].piece) ∧
    w.cell? ⟨b, o + k * 9 + 5, none⟩ = some (.bool ys[k].equ) ∧
    w.cell? ⟨b, o + k * 9 + 6, none⟩ = some (.int .i64 ys[k].v.add) ∧
    w.cell? ⟨b, o + k * 9 + 7, none⟩ = some (.string ys[k].v.plus) ∧
    w.cell? ⟨b, o + k * 9 + 8, none⟩ = some (.string ys[k].v.minus) :=
  ⟨row_cells Mk.cells 9 (fun _ => rfl) h k hk 0 (by decide), row_cells Mk.cells 9 (fun _ => rfl) h k hk 1 (by decide), row_cells Mk.cells 9 (fun _ => rfl) h k hk 2 (by decide), row_cells Mk.cells 9 (fun _ => rfl) h k hk 3 (by decide), row_cells Mk.cells 9 (fun _ => rfl) h k hk 4 (by decide), row_cells Mk.cells 9 (fun _ => rfl) h k hk 5 (by decide), row_cells Mk.cells 9 (fun _ => rfl) h k hk 6 (by decide), row_cells Mk.cells 9 (fun _ => rfl) h k hk 7 (by decide), row_cells Mk.cells 9 (fun _ => rfl) h k hk 8 (by decide)⟩
theorem mk_ones (x : Mk) : ∀ u ∈ x.cells, u.oneCell' = true := fun u hu => by
  simp [Mk.cells, Sl.val] at hu
  rcases hu with rfl | rfl | rfl | rfl | rfl | rfl | rfl | rfl | rfl <;> rfl
theorem td_cells {ys : List Td} (h : Row w (some ⟨b, o, none⟩) (ys.flatMap Td.cells)) (k : Nat) (hk : k < ys.length) :
    w.cell? ⟨b, o + k * 3, none⟩ = some (.string ys[k].name) ∧
    w.cell? ⟨b, o + k * 3 + 1, none⟩ = some (.int .i64 ys[k].file) ∧
    w.cell? ⟨b, o + k * 3 + 2, none⟩ = some (.int .i64 ys[k].line) :=
  ⟨row_cells Td.cells 3 (fun _ => rfl) h k hk 0 (by decide), row_cells Td.cells 3 (fun _ => rfl) h k hk 1 (by decide), row_cells Td.cells 3 (fun _ => rfl) h k hk 2 (by decide)⟩
theorem td_ones (x : Td) : ∀ u ∈ x.cells, u.oneCell' = true := fun u hu => by
  simp [Td.cells, Sl.val] at hu
  rcases hu with rfl | rfl | rfl <;> rfl
theorem ft_cells {ys : List Ft} (h : Row w (some ⟨b, o, none⟩) (ys.flatMap Ft.cells)) (k : Nat) (hk : k < ys.length) :
    w.cell? ⟨b, o + k * 3, none⟩ = some (.int .i64 ys[k].file) ∧
    w.cell? ⟨b, o + k * 3 + 1, none⟩ = some (.int .i64 ys[k].line) ∧
    w.cell? ⟨b, o + k * 3 + 2, none⟩ = some (.int .i64 ys[k].err) :=
  ⟨row_cells Ft.cells 3 (fun _ => rfl) h k hk 0 (by decide), row_cells Ft.cells 3 (fun _ => rfl) h k hk 1 (by decide), row_cells Ft.cells 3 (fun _ => rfl) h k hk 2 (by decide)⟩
theorem ft_ones (x : Ft) : ∀ u ∈ x.cells, u.oneCell' = true := fun u hu => by
  simp [Ft.cells, Sl.val] at hu
  rcases hu with rfl | rfl | rfl <;> rfl
theorem EPart : Elem Try.prog 28 50 4 56 (.agg #[.string .empty, .int .i64 0, .int .i64 0, .slice none 0 0]) := Elem.mk' Try.underlying28 (by kernel_rfl) rfl (by decide)
theorem EPiece : Elem Try.prog 48 64 11 144 (.agg #[.int .i64 0, .int .i64 0, .int .i64 0, .string .empty, .slice none 0 0, .int .i64 0, .string .empty, .string .empty, .int .i64 0, .slice none 0 0, .int .i64 0]) := Elem.mk' Try.underlying48 (by kernel_rfl) rfl (by decide)
theorem EMark : Elem Try.prog 29 81 9 96 (.agg #[.string .empty, .int .i64 0, .int .i64 0, .int .i64 0, .int .i64 0, .bool false, .int .i64 0, .string .empty, .string .empty]) := Elem.mk' Try.underlying29 (by kernel_rfl) rfl (by decide)
theorem ETold : Elem Try.prog 30 90 3 32 (.agg #[.string .empty, .int .i64 0, .int .i64 0]) := Elem.mk' Try.underlying30 (by kernel_rfl) rfl (by decide)
theorem EFault : Elem Try.prog 33 42 3 24 (.agg #[.int .i64 0, .int .i64 0, .int .i64 0]) := Elem.mk' Try.underlying33 (by kernel_rfl) rfl (by decide)
theorem EOper : Elem Try.prog 23 72 15 120 (.agg #[.int .i64 0, .int .i64 0, .bool false, .bool false, .int .i64 0, .bool false, .bool false, .int .i64 0, .int .i64 0, .int .i64 0, .int .i64 0, .string .empty, .string .empty, .bool false, .int .i64 0]) := Elem.mk' Try.underlying23 (by kernel_rfl) rfl (by decide)
theorem EU8 : Elem Try.prog 55 5 1 1 (.int .u8 0) := Elem.mk' Try.underlying55 (by kernel_rfl) rfl (by decide)
end Go.Proofs.Ythlingholhjcnaa
namespace Go.Proofs.Ythlingholhjcnaa
open Go.RowKit

def begL (s : ByteArray) (l : List UInt8) : Bool := s.toList == l || Lib.hasPrefix s.data.toList (l ++ [46])
theorem point_size (p : ByteArray) : (p ++ ⟨#[46]⟩ : ByteArray).size = p.size + 1 := by
  rw [ByteArray.size_append]; rfl
theorem point_data (p : ByteArray) : (p ++ ⟨#[46]⟩ : ByteArray).data.toList = p.data.toList ++ [46] := by
  simp
theorem ext_pre (s p : ByteArray) (h : p.size < s.size) : ((s.extract 0 (p.size + 1)).toList == (p ++ ⟨#[46]⟩ : ByteArray).toList) = Lib.hasPrefix s.data.toList (p.data.toList ++ [46]) := by
  have hz := point_size p
  have := Lib.occ_of_piece s (p ++ ⟨#[46]⟩ : ByteArray) 0 (by omega)
  rw [Nat.zero_add, hz] at this
  rw [← this, Lib.occAt, List.drop_zero, Lib.hasPrefix, point_data]
theorem pre_short (s p : ByteArray) (h : ¬ p.size < s.size) : Lib.hasPrefix s.data.toList (p.data.toList ++ [46]) = false := by
  rw [Lib.hasPrefix, Bool.eq_false_iff]
  intro e
  have h1 := (List.isPrefixOf_iff_prefix.1 e).length_le
  have h2 : p.data.toList.length = p.size := rfl
  have h3 : s.data.toList.length = s.size := rfl
  simp only [List.length_append, List.length_singleton] at h1
  omega
set_option maxHeartbeats 400000 in
theorem begins_any (s p : ByteArray) (w : World) (hp : p.size ≤ 1000) : Calls Try.prog 63 #[.string s, .string p] w fun e w' => e = .returned (.bool (begL s p.data.toList)) ∧ w = w' := by
  have hi : (IntKind.i64.wrap ((p.size : Int) + 1)) = p.size + 1 := IntWalk.i64_in _ (by omega)
  have HE := hid (ext_pre s p)
  rcases Classical.em (s.toList = p.toList) with h1 | h1
  · go_enter Try.func63, Try.ntmps63
    go_wp2
    go_ret
    refine ⟨ret_bool ?_, rfl⟩
    simp [begL, ← Lib.toList_data, h1]
  · have h1' : (s.toList == p.toList) = false := by simpa using h1
    have H1 := hid h1'
    rcases Classical.em (p.size < s.size) with h2 | h2
    · go_enter Try.func63, Try.ntmps63
      go_wp2
      go_ret
      refine ⟨ret_bool ?_, rfl⟩
      rw [HE.out h2]
      simp [begL, ← Lib.toList_data, h1]
    · have h2' : s.size ≤ p.size := by omega
      go_enter Try.func63, Try.ntmps63
      go_wp2
      go_ret
      refine ⟨ret_bool ?_, rfl⟩
      have h1d : ¬ s.toList = p.data.toList := by rw [← Lib.toList_data]; exact h1
      simp [begL, h1d, pre_short s p h2]

def kindP (s : ByteArray) : Int := if begL s [46, 116, 101, 120, 116] then 1 else if begL s [46, 114, 111, 100, 97, 116, 97] then 3 else if begL s [46, 98, 115, 115] then 4 else 2
theorem rkind_any (s : ByteArray) (w : World) : Calls Try.prog 57 #[.string s] w fun e w' => e = .returned (.int .i64 (kindP s)) ∧ w = w' := by
  have H := hid (fun p w hp => begins_any s p w hp)
  unfold kindP
  go_enter Try.func57, Try.ntmps57
  go_wp2_with (go_at_call 63; refine (H.out _ _ (by decide)).mono ?_; rintro e w' ⟨rfl, rfl⟩)
  all_goals (go_ret; refine ⟨ret_int ?_, rfl⟩; simp_all)
set_option maxHeartbeats 1000000 in
theorem kind_any (s : ByteArray) (w : World) : Calls Try.prog 56 #[.string s] w fun e w' => e = .returned (.int .i64 (kindP s)) ∧ Below w.heap.size w w' := by
  have HP := hid (fun p w => Try.strings_HasPrefix s p w)
  go_enter Try.func56, Try.ntmps56
  go_wp2
  refine wp_loop_rounds 4 ?_
  rw [rounds_succ]
  go_wp2_with (go_at_call 26; refine (HP.out _ _).mono ?_; rintro e w' ⟨rfl, rfl⟩)
  all_goals try (rw [rounds_succ]; go_wp2_with (go_at_call 26; refine (HP.out _ _).mono ?_; rintro e w' ⟨rfl, rfl⟩))
  all_goals try (rw [rounds_succ]; go_wp2_with (go_at_call 26; refine (HP.out _ _).mono ?_; rintro e w' ⟨rfl, rfl⟩))
  all_goals try (rw [rounds_succ]; go_wp2)
  all_goals (go_ret; refine ⟨ret_int ?_, ?_⟩)
  all_goals first | (simp_all [kindP, begL]; done) | (repeat' (first | exact Below.refl _ _ | refine Below.alloc ?_ (by simp <;> omega) _))
end Go.Proofs.Ythlingholhjcnaa
namespace Go.Proofs.Ythlingholhjcnaa
open Go.RowKit
variable {w w' W : World}

def isS (s : ByteArray) (l : ByteArray) : Bool := s.toList == l.toList
def growsN (n : ByteArray) : Int × Int × Bool :=
  if isS n ⟨#[116, 98, 122]⟩ || isS n ⟨#[116, 98, 110, 122]⟩ then (-32768, 32764, true)
  else if isS n ⟨#[99, 98, 122]⟩ || isS n ⟨#[99, 98, 110, 122]⟩ || Lib.hasPrefix n.data.toList [98, 46] then (-1048576, 1048572, true) else (0, 0, false)
def growsO (o : Oc) : Bool := !(o.kind != 3) && !(isS o.v.plus ⟨#[]⟩) && !(isS o.v.plus ⟨#[46]⟩) && isS o.v.minus ⟨#[]⟩
def growsP (n : ByteArray) (l : List Oc) : Int × Int × Bool := match l.getLast? with
  | none => (0, 0, false)
  | some o => if growsO o then growsN n else (0, 0, false)
def GrowsT (n : ByteArray) (l : List Oc) (w : World) (e : Ending) (w' : World) : Prop := e = .returned (.tuple #[.int .i64 (growsP n l).1, .int .i64 (growsP n l).2.1, .bool (growsP n l).2.2]) ∧ Below w.heap.size w w'
set_option maxRecDepth 20000 in
set_option maxHeartbeats 2000000 in
theorem grows_any (x : LnR) (h : SlOk W Oc.cells 120 x.opers) : Calls Try.prog 11 #[.agg x.cells.toArray] W (GrowsT x.name x.opers.l W) := by
  obtain ⟨nm, ⟨p, c, l⟩⟩ := x
  have HP := hid (fun w => Try.strings_HasPrefix nm ⟨#[98, 46]⟩ w)
  unfold LnR.cells Sl.val
  dsimp only
  by_cases h0 : l = []
  · subst h0
    clear h
    go_enter Try.func11, Try.ntmps11
    go_wp2
    go_ret3
    exact ⟨rfl, (Below.refl _ _).alloc (Nat.le_refl _) _⟩
  · obtain ⟨ini, o, rfl⟩ : ∃ ini o, l = ini ++ [o] := ⟨l.dropLast, l.getLast h0, (List.dropLast_concat_getLast h0).symm⟩
    have hlast : (ini ++ [o]).getLast? = some o := by simp
    obtain ⟨b, q, rfl, hbl, -⟩ := h.row.at (by have := flat_len Oc.cells 15 (fun _ => rfl) (ini ++ [o]); rw [List.length_append] at this; simp at this ⊢; omega)
    have hll : (ini ++ [o]).length = ini.length + 1 := by simp
    have hcl := oc_cells h.row ini.length (by rw [hll]; omega)
    have hge : (ini ++ [o])[ini.length]'(by rw [hll]; omega) = o := by simp
    rw [hge] at hcl
    obtain ⟨c0, c1, c2, c3, c4, c5, c6, c7, c8, c9, c10, c11, c12, c13, c14⟩ := hcl
    have hcap := h.cap
    have hlen := h.len
    obtain ⟨r1, r2, r3, hr⟩ : ∃ r1 r2 r3, growsP nm (ini ++ [o]) = (r1, r2, r3) := ⟨_, _, _, rfl⟩
    have HG : Hid ((if growsO o then growsN nm else (0, 0, false)) = (r1, r2, r3)) := by unfold Hid; rw [← hr, growsP, hlast]
    unfold GrowsT
    rw [hr]
    clear hr
    dsimp only at hcap hlen
    rw [hll] at hlen hcap ⊢
    have hI : (((ini.length + 1 : Nat) : Int) == 0) = false := by simp; omega
    have hw1 : IntKind.i64.wrap (((ini.length + 1 : Nat) : Int) - 1) = (ini.length : Nat) := by rw [IntWalk.i64_in _ (by omega)]; omega
    clear h hge hlast h0 hll
    generalize ini.length = k at *
    go_enter Try.func11, Try.ntmps11
    go_wp2_with (go_at_call 26; (with_reducible refine (HP.out _).mono ?_); rintro e w' ⟨rfl, rfl⟩)
    all_goals (go_ret3; refine ⟨?_, ((Below.refl _ _).alloc (Nat.le_refl _) _).alloc (by simp) _⟩)
    all_goals first
      | (suffices hs : ((0 : Int), (0 : Int), false) = (r1, r2, r3) by (cases hs; rfl)); rw [← HG.out]; clear HG HP; simp_all [growsO, growsN, isS]; done
      | (suffices hs : ((-32768 : Int), (32764 : Int), true) = (r1, r2, r3) by (cases hs; rfl)); rw [← HG.out]; clear HG HP; simp_all [growsO, growsN, isS]; done
      | (suffices hs : ((-1048576 : Int), (1048572 : Int), true) = (r1, r2, r3) by (cases hs; rfl)); rw [← HG.out]; clear HG HP; simp_all [growsO, growsN, isS]; done
end Go.Proofs.Ythlingholhjcnaa
