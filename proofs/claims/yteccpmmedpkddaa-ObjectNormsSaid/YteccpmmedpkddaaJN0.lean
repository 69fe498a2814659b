/-
  Words and laws for the walks of this seat, over any program: rows of cells that a slice reads, append onto a row of the call's own from any row, maps as lists of pairs.
  What comes in, opened: slices of strings and of integers as rows of cells.
-/
import Derived.WalkKit
import Derived.Maps.OwnOps
import Derived.Lib.AppendStr
import Derived.Laws.AppendOwnNone
import Derived.Deep.QuietTactic
import Derived.BigQuiet
import Derived.WalkSmall
import Derived.ProofKit
import Derived.OpenShut
import Derived.ShutString
import Derived.ChangeOld
import Derived.SizedLaws
import Derived.SliceStrings
namespace Go.Proofs.Yteccpmmedpkddaa
open Go.RowKit
open Go.ChangeMaps (setBlock heap_setBlock_same heap_setBlock_other)

theorem hid {p : Prop} (h : p) : Hid p := h
theorem ret_bool {a b : Bool} (h : a = b) : Ending.returned (.bool a) = Ending.returned (.bool b) := by rw [h]
theorem ret_int {k : IntKind} {a b : Int} (h : a = b) : Ending.returned (.int k a) = Ending.returned (.int k b) := by rw [h]
theorem take_succ {α : Type} (xs : List α) (k : Nat) (hk : k < xs.length) : xs.take (k + 1) = xs.take k ++ [xs[k]] := by
  rw [List.take_add_one, List.getElem?_eq_getElem hk]; simp

/-- The cells cs lie at p (if there are any). -/
def Row (w : World) (p : Option Addr) (cs : List Value) : Prop :=
  cs ≠ [] → ∃ b o, p = some ⟨b, o, none⟩ ∧ ∀ i (h : i < cs.length), w.cell? ⟨b, o + i, none⟩ = some cs[i]

theorem Row.nil (w : World) (p : Option Addr) : Row w p [] := fun h => absurd rfl h

theorem Row.at {w : World} {p : Option Addr} {cs : List Value} (h : Row w p cs) (hp : 0 < cs.length) :
    ∃ b o, p = some ⟨b, o, none⟩ ∧ b < w.heap.size ∧ ∀ i (h : i < cs.length), w.cell? ⟨b, o + i, none⟩ = some cs[i] := by
  obtain ⟨b, o, rfl, hc⟩ := h (by intro e; rw [e] at hp; simp at hp)
  exact ⟨b, o, rfl, World.block_lt_of_cell? w _ (hc 0 hp), hc⟩

theorem Row.below {W w : World} {p : Option Addr} {cs : List Value} (h : Row W p cs) (hb : Below W.heap.size W w) : Row w p cs := by
  intro hne
  obtain ⟨b, o, rfl, hc⟩ := h hne
  refine ⟨b, o, rfl, fun i hi => ?_⟩
  have hlt := World.block_lt_of_cell? W _ (hc i hi)
  rw [hb.cell (p := ⟨b, o + i, none⟩) hlt]
  exact hc i hi

theorem Row.kept {w w' : World} {p : Option Addr} {cs : List Value} {row : Option Nat} (h : Row w p cs) (hg : w.grownBy w' row) (hr : ∀ a, p = some a → some a.block ≠ row) : Row w' p cs := by
  intro hne
  obtain ⟨b, o, rfl, hc⟩ := h hne
  exact ⟨b, o, rfl, fun i hi => hg.cell (hc i hi) (hr ⟨b, o, none⟩ rfl)⟩

theorem Row.alloc {w : World} {p : Option Addr} {cs : List Value} (h : Row w p cs) (o : Obj) : Row (w.alloc o) p cs :=
  h.kept (World.grownBy_alloc w o none) (by simp)

theorem Row.drewN {w : World} {p : Option Addr} {cs : List Value} (h : Row w p cs) (q : Nat) : Row (w.drewN q) p cs := h
theorem own_drewN {w : World} {base : Nat} {e : TypeId} {size : Nat} {v : Value} {n : Nat} {xs : List Value} (h : w.ownsRow base e size v n xs) (q : Nat) : (w.drewN q).ownsRow base e size v n xs := h

/-- A part of a row is a row. -/
theorem Row.take {w : World} {p : Option Addr} {cs : List Value} (h : Row w p cs) (k : Nat) : Row w p (cs.take k) := by
  intro hne
  obtain ⟨b, o, rfl, hc⟩ := h (by intro e; rw [e] at hne; simp at hne)
  refine ⟨b, o, rfl, fun i hi => ?_⟩
  have hi' : i < cs.length := by simp at hi; omega
  rw [List.getElem_take]
  exact hc i hi'

theorem Row.cell {w : World} {b o : Nat} {cs : List Value} (h : Row w (some ⟨b, o, none⟩) cs) (i : Nat) (hi : i < cs.length) : w.cell? ⟨b, o + i, none⟩ = some cs[i] := by
  obtain ⟨b', o', e, hc⟩ := h (by intro e; rw [e] at hi; simp at hi)
  cases e
  exact hc i hi

theorem addr_add (b o i : Nat) : (⟨b, o, none⟩ : Addr).add i = ⟨b, o + i, none⟩ := Addr.add_lit _ _ _

/-- What is owned lies where its value says. -/
theorem own_row {w : World} {base : Nat} {e : TypeId} {size : Nat} {v : Value} {n : Nat} {xs : List Value} (h : w.ownsRow base e size v n xs) :
    ∃ p c, v = .slice p n c ∧ n ≤ c ∧ c ≤ maxLen ∧ Row w p xs ∧ (p = none → n = 0) ∧ (∀ a, p = some a → base ≤ a.block) := by
  rcases h.2 with ⟨rfl, rfl⟩ | ⟨g, cap, cur, rfl, hb, hg, hnc, hcm, hcs, htake⟩
  · have : xs = [] := List.eq_nil_of_length_eq_zero (by simpa using h.1)
    subst this
    exact ⟨none, 0, rfl, Nat.le_refl _, Nat.zero_le _, Row.nil _ _, fun _ => rfl, by simp⟩
  · refine ⟨some ⟨g, 0, none⟩, cap, rfl, hnc, hcm, ?_, by simp, by simpa using hb⟩
    intro _
    refine ⟨g, 0, rfl, fun i hi => ?_⟩
    have := h.cells (g := g) rfl i xs[i] (by simp [hi])
    rwa [addr_add] at this

theorem own_shape {w : World} {base : Nat} {e : TypeId} {size : Nat} {v : Value} {n : Nat} {xs : List Value} (h : w.ownsRow base e size v n xs) : ∃ p c, v = .slice p n c ∧ Row w p xs := by
  obtain ⟨p, c, e1, _, _, hr, _⟩ := own_row h
  exact ⟨p, c, e1, hr⟩

theorem row_new (w : World) (cs : List Value) (e : TypeId) : Row (w.alloc (.cells cs.toArray e)) (some ⟨w.heap.size, 0, none⟩) cs := by
  intro _
  refine ⟨w.heap.size, 0, rfl, fun i hi => ?_⟩
  rw [cell_of_row (w.alloc (.cells cs.toArray e)) w.heap.size (0 + i) cs.toArray e (0, 0) (heap_alloc_new w _)]
  simp [hi]

theorem row_newAt (w : World) (cs : List Value) (e : TypeId) (n : Nat) (hn : n = w.heap.size) : Row (w.alloc (.cells cs.toArray e)) (some ⟨n, 0, none⟩) cs := by
  subst hn; exact row_new w cs e

theorem own_new (w : World) (cs : List Value) (e : TypeId) (base n size : Nat) (hb : base ≤ w.heap.size) (hn : cs.length = n * size) (hm : n ≤ maxLen) :
    (w.alloc (.cells cs.toArray e)).ownsRow base e size (.slice (some ⟨w.heap.size, 0, none⟩) n n) n cs :=
  ⟨hn, .inr ⟨w.heap.size, n, cs.toArray, rfl, hb, heap_alloc_new w _, Nat.le_refl _, hm, by simp [hn], by simp [← hn]⟩⟩

/-- The slice type t, its elements' type e, of so many cells and bytes, and what an element begins as. -/
structure Elem (P : Program) (t e : TypeId) (size bytes : Nat) (z : Value) : Prop where
  desc : P.underlying t = some (.slice e)
  info : ∃ i, P.info? e = some i ∧ i.zero = some z ∧ i.size = size ∧ i.bytes = bytes
  cells : z.cells.size = size
  pos : 0 < size

theorem Elem.mk' {P : Program} {t e : TypeId} {z : Value} {size bytes : Nat} (h1 : P.underlying t = some (.slice e)) (h2 : (P.info? e).map (fun i => (i.zero, i.size, i.bytes)) = some (some z, size, bytes)) (h3 : z.cells.size = size) (h4 : 0 < size) : Elem P t e size bytes z :=
  ⟨h1, info_parts h2, h3, h4⟩

/-- Behind an append the value lies where it lay, or in a new block. -/
def Stayed (w : World) (v v' : Value) : Prop := ∀ g, v'.ownBlock = some g → v.ownBlock = some g ∨ w.heap.size ≤ g

theorem stayed_of_ok {P : Program} {w : World} {s : Sem Value} {v v1 v' : Value} {w1 w' : World} (h : s.run P w = .ok v1 w1) (h' : s.run P w = .ok v' w') (hs : Stayed w v v1) : Stayed w v v' := by
  rw [h] at h'
  cases h'
  exact hs

theorem stayed_new (w : World) (v : Value) (n c : Nat) : Stayed w v (.slice (some ⟨w.heap.size, 0, none⟩) n c) := by
  intro g hg
  simp [Value.ownBlock] at hg
  exact .inr (by omega)

/-- Two values own no block together. -/
def Apart (v u : Value) : Prop := ∀ g, v.ownBlock = some g → u.ownBlock ≠ some g
theorem Apart.symm {v u : Value} (h : Apart v u) : Apart u v := fun g hg hv => h g hv hg
theorem Apart.stayed {w : World} {v v' u : Value} (h : Apart v u) (hs : Stayed w v v') (hu : ∀ g, u.ownBlock = some g → g < w.heap.size) : Apart v' u := by
  intro g hg hug
  rcases hs g hg with h1 | h1
  · exact h g h1 hug
  · have := hu g hug; omega
theorem ne_stayed {w : World} {v v' : Value} {b : Nat} (hs : Stayed w v v') (h : v.ownBlock ≠ some b) (hlt : b < w.heap.size) : v'.ownBlock ≠ some b := by
  intro e
  rcases hs _ e with h1 | h1
  · exact h h1
  · omega
theorem Apart.nil (v : Value) : Apart (.slice none 0 0) v := fun g hg => by simp [Value.ownBlock] at hg
theorem own_lt {w : World} {base : Nat} {e : TypeId} {size : Nat} {v : Value} {n : Nat} {xs : List Value} (h : w.ownsRow base e size v n xs) : ∀ g, v.ownBlock = some g → g < w.heap.size := fun g hg => (h.lt g hg).2
theorem own_ge {w : World} {base : Nat} {e : TypeId} {size : Nat} {v : Value} {n : Nat} {xs : List Value} (h : w.ownsRow base e size v n xs) : ∀ g, v.ownBlock = some g → base ≤ g := fun g hg => (h.lt g hg).1
theorem own_kept {w w' : World} {base : Nat} {e : TypeId} {size : Nat} {v u : Value} {n : Nat} {xs : List Value} (h : w.ownsRow base e size v n xs) (hg : w.grownBy w' u.ownBlock) (ha : Apart v u) : w'.ownsRow base e size v n xs := by
  refine h.kept hg ?_
  cases hv : v.ownBlock with
  | none => exact .inl rfl
  | some g => exact .inr (fun e => ha g hv e.symm)

section
variable {P : Program} {w : World} {t e : TypeId} {size bytes : Nat} {z : Value}

theorem app_stayed (E : Elem P t e size bytes z) (ty : TypeId) (base : Nat) (v : Value) (n : Nat) (xs : List Value) (hown : w.ownsRow base e size v n xs)
    (a : Addr) (m c : Nat) (news : List Value) (hl : news.length = m * size) (hnews : ∀ j u, news[j]? = some u → w.cell? (a.add j) = some u) (h1 : ∀ u ∈ news, u.oneCell' = true)
    (h63 : n + m ≤ maxLen) (hbytes : (n + m) * bytes ≤ 140737488355328) {v' : Value} {w' : World} (hr : (Builtin.append_ #[t, t] ty #[v, .slice (some a) m c]).run P w = .ok v' w') : Stayed w v v' := by
  obtain ⟨i, hi, hz, hsz, hby⟩ := E.info
  subst hsz
  subst hby
  have hsmall : n + m ≤ 9223372036854775807 := by simp only [maxLen] at h63; omega
  rcases hown.2 with ⟨rfl, rfl⟩ | ⟨g, cap, cur, rfl, hbg, hg, hnc, hcm, hcs, htake⟩
  · by_cases hm : m = 0
    · subst hm
      have hn : news = [] := List.eq_nil_of_length_eq_zero (by simpa using hl)
      subst hn
      refine stayed_of_ok (w1 := w) (v1 := .slice none 0 0) ?_ hr (fun g hg => .inl hg)
      simp [Builtin.append_, run_underlying E.desc, sizeOf, typeInfo, hi, Builtin.lenOf, Builtin.firstCells, loadCells, loadCellsFrom]
    · exact stayed_of_ok (run_append_nil (P := P) w t ty e i z E.desc hi hz a m c news hl hnews (by omega) (by omega) (by have hb := hbytes; simp only [Nat.zero_add] at hb; omega)) hr (stayed_new _ _ _ _)
  · by_cases hroom : n + m ≤ cap
    · have hfit : n * i.size + news.length ≤ cur.size := by rw [hl, hcs, ← Nat.add_mul]; exact Nat.mul_le_mul_right _ hroom
      exact stayed_of_ok (run_append_room (P := P) w t ty e i E.desc hi g n cap cur hg a m c news hl hnews h1 hroom hfit) hr (fun g' hg' => .inl hg')
    · have holds : ∀ j u, xs[j]? = some u → w.cell? ((⟨g, 0, none⟩ : Addr).add j) = some u := hown.cells (g := g) rfl
      exact stayed_of_ok (run_append_grow (P := P) w t ty e i z E.desc hi hz ⟨g, 0, none⟩ n cap xs hown.1 holds a m c news hl hnews (by omega) (by omega) (growslice_fits (by omega) hbytes)) hr (stayed_new _ _ _ _)

theorem app_stayed_string (E : Elem P t e 1 1 (.int .u8 0)) {u : TypeId} (hu : P.underlying u = some .string) (ty : TypeId) (base : Nat) (v : Value) (n : Nat) (xs : List Value) (hown : w.ownsRow base e 1 v n xs) (s : ByteArray)
    (h63 : n + s.size ≤ maxLen) (hbytes : n + s.size ≤ 140737488355328) {v' : Value} {w' : World} (hr : (Builtin.append_ #[t, u] ty #[v, .string s]).run P w = .ok v' w') : Stayed w v v' := by
  obtain ⟨i, hi, hz, hsz, hby⟩ := E.info
  have hsmall : n + s.size ≤ 9223372036854775807 := by simp only [maxLen] at h63; omega
  have hxl : xs.length = n := by simpa using hown.1
  rcases hown.2 with ⟨rfl, rfl⟩ | ⟨g, cap, cur, rfl, hbg, hg, hnc, hcm, hcs, htake⟩
  · by_cases hm : s.size = 0
    · refine stayed_of_ok (w1 := w) (v1 := .slice none 0 0) ?_ hr (fun g hg => .inl hg)
      have hf := Lib.run_firstCells_string (P := P) w 1 s
      have hn : Lib.strCells s = [] := List.eq_nil_of_length_eq_zero (by rw [Lib.strCells_length]; exact hm)
      rw [hm] at hf
      simp [Builtin.append_, run_underlying E.desc, run_underlying hu, sizeOf, typeInfo, hi, hsz, Builtin.lenOf, hm, hf]
    · exact stayed_of_ok (run_append_nil_string (P := P) w t u ty e i (.int .u8 0) E.desc hu hi hz s (by omega) (by omega) (by rw [hby]; omega)) hr (stayed_new _ _ _ _)
  · by_cases hroom : n + s.size ≤ cap
    · have hcs' : cur.size = cap := by simpa using hcs
      exact stayed_of_ok (Lib.run_append_room_string (P := P) w t u ty e i E.desc hu hi hsz g n cap cur hg s hroom (by omega)) hr (fun g' hg' => .inl hg')
    · have holds : ∀ j u, xs[j]? = some u → w.cell? ((⟨g, 0, none⟩ : Addr).add j) = some u := hown.cells (g := g) rfl
      exact stayed_of_ok (Lib.run_append_grow_string (P := P) w t u ty e i (.int .u8 0) E.desc hu hi hz ⟨g, 0, none⟩ n cap xs (by rw [hsz]; simpa using hxl) holds s (by omega) (by omega) (by rw [hby]; exact growslice_fits (by omega) (by omega))) hr (stayed_new _ _ _ _)

variable {ops : Array Oper} {rest : List Oper} {o : Oper} {a : Act} {Q : Exit → Act → World → Prop}

/-- 'append(v, x...)' at the operation, for the walk: v the call's own, x any row. -/
theorem wpList_app (E : Elem P t e size bytes z) (hgd : o.guard = none) (s x : Operand)
    (ho : o.op = .call { callee := .builtin .append, args := #[s, x], argTypes := #[t, t] })
    (base : Nat) (v : Value) (n : Nat) (xs : List Value) (hs : a.eval s = v) (hown : w.ownsRow base e size v n xs)
    (p : Option Addr) (m c : Nat) (news : List Value) (hx : a.eval x = .slice p m c) (hl : news.length = m * size) (hnil : p = none → c = 0) (hrow : Row w p news) (h1 : ∀ u ∈ news, u.oneCell' = true)
    (h63 : n + m ≤ maxLen) (hbytes : (n + m) * bytes ≤ 140737488355328) (hbase : base ≤ w.heap.size)
    (h : ∀ v' w', w'.ownsRow base e size v' (n + m) (xs ++ news) → w.grownBy w' v.ownBlock → Stayed w v v' → wpList P ops Q rest (a.put o.dst v') w') : wpList P ops Q (o :: rest) a w := by
  obtain ⟨i, hi, hz, hsz, hby⟩ := E.info
  cases p with
  | none =>
    have hc : c = 0 := hnil rfl
    subst hc
    have hn : news = [] := by
      apply Classical.byContradiction
      intro hne
      obtain ⟨b, o, e1, _⟩ := hrow hne
      cases e1
    subst hn
    have hm : m = 0 := by
      have := E.pos
      have hl' : 0 = m * size := hl
      rcases Nat.mul_eq_zero.1 hl'.symm with h0 | h0
      · exact h0
      · omega
    subst hm
    refine wpList_append_own_none hgd s x t ho base e i size E.desc hi v n xs hs hown hx (h v w (by simpa using hown) (World.grownBy.refl _ _) (fun g hg => .inl hg))
  | some ad =>
    have hnews : ∀ j u, news[j]? = some u → w.cell? (ad.add j) = some u := by
      intro j u hj
      have hjl : j < news.length := (List.getElem?_eq_some_iff.1 hj).1
      obtain ⟨b, o, e1, hc⟩ := hrow (by intro e1; rw [e1] at hjl; simp at hjl)
      cases e1
      rw [addr_add, hc j hjl]
      rw [List.getElem?_eq_getElem hjl] at hj
      exact hj
    refine wpList_plain hgd fun K hK => ?_
    obtain ⟨v', w', hr, h2, h3, _⟩ := run_append_own (P := P) w base t o.type e i z size bytes E.desc hi hz hsz hby E.cells E.pos v n xs hown ad m c news hl hnews h1 h63 hbytes hbase
    have h4 := app_stayed E o.type base v n xs hown ad m c news hl hnews h1 h63 hbytes hr
    unfold Oper.wp execOp
    simp only [ho, resolve, invoke, builtin, Sem.run_bind, Sem.run_pure, Result.andThen_ok, List.map_toArray, List.map_cons, List.map_nil, hs, hx, hr]
    exact hK _ _ (h v' w' h2 h3 h4)

/-- 'append(v, s...)', s a string. -/
theorem wpList_app_string (E : Elem P t e 1 1 (.int .u8 0)) {u : TypeId} (hu : P.underlying u = some .string) (hgd : o.guard = none) (sl x : Operand)
    (ho : o.op = .call { callee := .builtin .append, args := #[sl, x], argTypes := #[t, u] })
    (base : Nat) (v : Value) (n : Nat) (xs : List Value) (hs : a.eval sl = v) (hown : w.ownsRow base e 1 v n xs) (s : ByteArray) (hx : a.eval x = .string s)
    (h63 : n + s.size ≤ maxLen) (hbytes : n + s.size ≤ 140737488355328) (hbase : base ≤ w.heap.size)
    (h : ∀ v' w', w'.ownsRow base e 1 v' (n + s.size) (xs ++ Lib.strCells s) → w.grownBy w' v.ownBlock → Stayed w v v' → wpList P ops Q rest (a.put o.dst v') w') : wpList P ops Q (o :: rest) a w := by
  obtain ⟨i, hi, hz, hsz, hby⟩ := E.info
  refine wpList_plain hgd fun K hK => ?_
  obtain ⟨v', w', hr, h2, h3, _⟩ := Lib.run_append_own_string (P := P) w base t u o.type e i E.desc hu hi hz hsz hby v n xs hown s h63 hbytes hbase
  have h4 := app_stayed_string E hu o.type base v n xs hown s h63 hbytes hr
  unfold Oper.wp execOp
  simp only [ho, resolve, invoke, builtin, Sem.run_bind, Sem.run_pure, Result.andThen_ok, List.map_toArray, List.map_cons, List.map_nil, hs, hx, hr]
  exact hK _ _ (h v' w' h2 h3 h4)
end

section
variable {P : Program} {w : World} {t e : TypeId} {size bytes : Nat} {z : Value} {ops : Array Oper} {rest : List Oper} {o : Oper} {a : Act} {Q : Exit → Act → World → Prop}

/-- 'make([]T, 0, n)' at the operation. -/
theorem wpList_mk (E : Elem P t e size bytes z) (hgd : o.guard = none) (l c : Operand) (ho : o.op = .makeSlice t l c) (base : Nat) (kl kc : IntKind) (C : Int) (n : Nat) (hl : a.eval l = .int kl 0) (hc : a.eval c = .int kc C) (hC : C = (n : Int))
    (hb : bytes * n ≤ 281474976710656) (hm : n ≤ maxLen) (hbase : base ≤ w.heap.size)
    (h : ∀ w', w'.ownsRow base e size (.slice (some ⟨w.heap.size, 0, none⟩) 0 n) 0 [] → w.grownBy w' none → wpList P ops Q rest (a.put o.dst (.slice (some ⟨w.heap.size, 0, none⟩) 0 n)) w') : wpList P ops Q (o :: rest) a w := by
  obtain ⟨i, hi, hz, hsz, hby⟩ := E.info
  exact wpList_make_own w hgd l c t ho base e i z size E.desc hi hz hsz kl kc C n hl hc hC (by rw [hby]; exact hb) hm hbase h

/-- 'make([]T, n)' at the operation. -/
theorem wpList_mkfull (E : Elem P t e size bytes z) (hgd : o.guard = none) (l c : Operand) (ho : o.op = .makeSlice t l c) (base : Nat) (kl kc : IntKind) (L C : Int) (n : Nat) (hl : a.eval l = .int kl L) (hc : a.eval c = .int kc C) (hL : L = (n : Int)) (hC : C = (n : Int))
    (hb : bytes * n ≤ 281474976710656) (hm : n ≤ maxLen) (hbase : base ≤ w.heap.size)
    (h : ∀ w', w'.ownsRow base e size (.slice (some ⟨w.heap.size, 0, none⟩) n n) n (madeCells z.cells (n * size)).toList → w.grownBy w' none → wpList P ops Q rest (a.put o.dst (.slice (some ⟨w.heap.size, 0, none⟩) n n)) w') : wpList P ops Q (o :: rest) a w := by
  obtain ⟨i, hi, hz, hsz, hby⟩ := E.info
  exact wpList_make_full w hgd l c t ho base e i z size E.desc hi hz hsz kl kc L C n hl hc hL hC (by rw [hby]; exact hb) hm hbase h
end

/-! ### Maps as lists of pairs, in the order in which their keys came. -/

/-- A key's type: how its keys are written, and what the model asks of them. -/
structure KeyOk {κ : Type} (P : Program) (k : TypeId) (mk : κ → Value) [DecidableEq κ] : Prop where
  desc : ∃ d, P.underlying k = some d ∧ (∀ a b, Instr.sameNow d (mk a) (mk b) = some (decide (a = b))) ∧ (∀ (w : World) em a, (Instr.checkKey em 10000 k (mk a)).run P w = .ok () w)
  bits : ∀ a, Instr.sameBits 10000 (mk a) (mk a) = true

theorem beq_ba (a b : ByteArray) : (a == b) = decide (a = b) := by
  rw [beq_toListBytes]
  by_cases h : a = b
  · simp [h]
  · have hn : ¬ a.toList = b.toList := fun e => h (by
      rw [ByteArray.toList_eq, ByteArray.toList_eq] at e
      cases a; cases b; simp at e; simp [e])
    simp [h, hn]

theorem strEq {a b : ByteArray} (h : a = b) : (a.toList == b.toList) = true := by rw [← beq_toListBytes, beq_ba]; simp [h]
theorem strNe {a b : ByteArray} (h : a ≠ b) : (a.toList == b.toList) = false := by rw [← beq_toListBytes, beq_ba]; simp [h]

theorem keyOk_string {P : Program} {k : TypeId} (h : P.underlying k = some .string) : KeyOk P k Value.string := by
  refine ⟨⟨.string, h, fun a b => by simp [Instr.sameNow, beq_ba], fun w em a => ?_⟩, fun a => by simp [Instr.sameBits, beq_ba]⟩
  exact MapKept.run_checkKey (k := .string a) h True.intro em 9999

theorem keyOk_int {P : Program} {k : TypeId} {q : IntKind} (h : P.underlying k = some (.int q)) : KeyOk P k (Value.int q) := by
  refine ⟨⟨.int q, h, fun a b => by by_cases h : a = b <;> simp [Instr.sameNow, h], fun w em a => ?_⟩, fun a => by simp [Instr.sameBits]⟩
  exact MapKept.run_checkKey (k := .int q a) h rfl em 9999

section
variable {κ β : Type} [DecidableEq κ] {P : Program} {k : TypeId} {mk : κ → Value} {mv : β → Value}

def alook : List (κ × β) → κ → Option β
  | [], _ => none
  | (a, v) :: r, x => if x = a then some v else alook r x
def aset : List (κ × β) → κ → β → List (κ × β)
  | [], x, u => [(x, u)]
  | (a, v) :: r, x, u => if x = a then (a, u) :: r else (a, v) :: aset r x u
def adel : List (κ × β) → κ → List (κ × β)
  | [], _ => []
  | (a, v) :: r, x => if x = a then r else (a, v) :: adel r x

/-- Block b is a map of these pairs. -/
def MapIs (mk : κ → Value) (mv : β → Value) (w : World) (b : Nat) (m : List (κ × β)) : Prop :=
  ∃ es clock, w.heap[b]? = some (.map es clock) ∧ es.toList.map (fun x => (x.key, x.val)) = m.map (fun x => (mk x.1, mv x.2)) ∧ MapKept.Stamped es clock

omit [DecidableEq κ] in
theorem MapIs.lt {w : World} {b : Nat} {m : List (κ × β)} (h : MapIs mk mv w b m) : b < w.heap.size := by
  obtain ⟨es, clock, hb, _⟩ := h
  exact (Array.getElem?_eq_some_iff.1 hb).1
omit [DecidableEq κ] in
theorem MapIs.kept {w w' : World} {b : Nat} {m : List (κ × β)} {row : Option Nat} (h : MapIs mk mv w b m) (hg : w.grownBy w' row) (hne : some b ≠ row) : MapIs mk mv w' b m := by
  have hlt := h.lt
  obtain ⟨es, clock, hb, F⟩ := h
  exact ⟨es, clock, (hg.block b hlt hne).trans hb, F⟩
omit [DecidableEq κ] in
theorem MapIs.alloc {w : World} {b : Nat} {m : List (κ × β)} (h : MapIs mk mv w b m) (o : Obj) : MapIs mk mv (w.alloc o) b m := h.kept (World.grownBy_alloc w o none) (by simp)
omit [DecidableEq κ] in
theorem MapIs.below {B : Nat} {w w' : World} {b : Nat} {m : List (κ × β)} (h : MapIs mk mv w b m) (hb : Below B w w') (hlt : b < B) : MapIs mk mv w' b m := by
  obtain ⟨es, clock, h1, F⟩ := h
  exact ⟨es, clock, (hb.block b hlt).trans h1, F⟩
omit [DecidableEq κ] in
theorem MapIs.made (mk : κ → Value) (mv : β → Value) (w : World) : MapIs mk mv (w.alloc (.map #[] 0)) w.heap.size [] := ⟨#[], 0, heap_alloc_new w _, rfl, MapKept.stamped_empty 0⟩

theorem findNow_spec {d : TypeDesc} (hd : ∀ a b, Instr.sameNow d (mk a) (mk b) = some (decide (a = b))) (x : κ) :
    ∀ (m : List (κ × β)) (es : List MapEntry) (i : Nat), es.map (fun x => (x.key, x.val)) = m.map (fun x => (mk x.1, mv x.2)) →
    (alook m x = none ∧ Instr.findNow d (mk x) es i = some none ∧ ∀ u, aset m x u = m ++ [(x, u)]) ∨
    ∃ j v e, alook m x = some v ∧ Instr.findNow d (mk x) es i = some (some (i + j, mv v)) ∧ es[j]? = some e ∧ e.key = mk x ∧ j < es.length ∧
      (∀ u, (es.modify j (fun e => { e with key := mk x, val := mv u })).map (fun x => (x.key, x.val)) = (aset m x u).map (fun x => (mk x.1, mv x.2))) ∧
      (es.eraseIdx j).map (fun x => (x.key, x.val)) = (adel m x).map (fun x => (mk x.1, mv x.2)) := by
  intro m
  induction m with
  | nil =>
    intro es i h
    have : es = [] := by simpa using h
    subst this
    exact .inl ⟨rfl, rfl, fun _ => rfl⟩
  | cons p r ih =>
    intro es i h
    cases es with
    | nil => simp at h
    | cons e es =>
      simp only [List.map_cons, List.cons.injEq, Prod.mk.injEq] at h
      obtain ⟨⟨hk, hv⟩, hr⟩ := h
      by_cases hx : x = p.1
      · right
        subst hx
        refine ⟨0, p.2, e, by simp [alook], ?_, rfl, hk, by simp, fun u => ?_, ?_⟩
        · simp [Instr.findNow, hk, hd, hv]
        · simp [aset, List.modify, hr]
        · simp [adel, hr]
      · have hn : Instr.sameNow d (mk x) e.key = some false := by rw [hk, hd]; simp [hx]
        rcases ih es (i + 1) hr with ⟨h1, h2, h3⟩ | ⟨j, v, e', h1, h2, h3, h4, h5, h6, h7⟩
        · exact .inl ⟨by simp [alook, hx, h1], by simp [Instr.findNow, hn, h2], fun u => by simp [aset, hx, h3]⟩
        · refine .inr ⟨j + 1, v, e', by simp [alook, hx, h1], by simp [Instr.findNow, hn, h2]; omega, by simpa using h3, h4, by simp; omega, fun u => ?_, ?_⟩
          · simp [aset, hx, h6, hk, hv]
          · simp [adel, hx, h7, hk, hv]

theorem alook_ne {x : κ} : ∀ {m : List (κ × β)}, alook m x = none → ∀ p ∈ m, p.1 ≠ x
  | (a, v) :: r, h, p, hp => by
    by_cases hx : x = a
    · simp [alook, hx] at h
    · simp [alook, hx] at h
      rcases List.mem_cons.1 hp with rfl | hp
      · exact fun e => hx e.symm
      · exact alook_ne h p hp
theorem KeyOk.inj (K : KeyOk P k mk) {a b : κ} (h : mk a = mk b) : a = b := by
  obtain ⟨d, _, hs, _⟩ := K.desc
  have h1 := hs a a
  have h2 := hs a b
  rw [← h, h1] at h2
  simpa using h2
theorem entry_ne (K : KeyOk P k mk) {es : Array MapEntry} {m : List (κ × β)} (F : es.toList.map (fun x => (x.key, x.val)) = m.map (fun x => (mk x.1, mv x.2))) {x : κ} (h : alook m x = none) : ∀ e ∈ es.toList, e.key ≠ mk x := fun e he hk => by
  have hm : (e.key, e.val) ∈ m.map (fun x => (mk x.1, mv x.2)) := by rw [← F]; exact List.mem_map_of_mem (f := fun x : MapEntry => (x.key, x.val)) he
  obtain ⟨p, hp, hpe⟩ := List.mem_map.1 hm
  have : mk p.1 = mk x := (congrArg Prod.fst hpe).trans hk
  exact alook_ne h p hp (K.inj this)
omit [DecidableEq κ] in
/-- A map has each key once. -/
theorem MapIs.nodup {w : World} {b : Nat} {m : List (κ × β)} (h : MapIs mk mv w b m) : (m.map Prod.fst).Nodup := by
  obtain ⟨es, clock, hb, F, ST⟩ := h
  have e : es.toList.map (·.key) = (m.map Prod.fst).map mk := by
    have := congrArg (List.map Prod.fst) F
    simpa [List.map_map, Function.comp_def] using this
  have := ST.2.2
  rw [e] at this
  exact List.Pairwise.imp (fun hne e => hne (by rw [e])) (List.pairwise_map.1 this)
theorem MapIs.run_lookup {t el : TypeId} {w : World} {b : Nat} {m : List (κ × β)} (h : MapIs mk mv w b m) (K : KeyOk P k mk) (ht : P.underlying t = some (.map k el)) {z : Value} (hz : (zeroValue el).run P w = .ok z w) (x : κ) (c : Bool) :
    (Instr.lookup t (.map (some b)) (mk x) c).run P w = .ok (if c then .tuple #[((alook m x).map mv).getD z, .bool (alook m x).isSome] else ((alook m x).map mv).getD z) w := by
  obtain ⟨es, clock, hb, F, ST⟩ := h
  obtain ⟨d, hd, hs, hck⟩ := K.desc
  rcases findNow_spec hs x m es.toList 0 F with ⟨h1, h2, _⟩ | ⟨j, v, e, h1, h2, _⟩
  · simp [Instr.lookup, run_underlying ht, MapKept.run_getObj_map hb, hck, Instr.findKey, run_underlying hd, h2, h1, hz, Result.andThen]
  · simp [Instr.lookup, run_underlying ht, MapKept.run_getObj_map hb, hck, Instr.findKey, run_underlying hd, h2, h1, Result.andThen]

theorem MapIs.run_update {t el : TypeId} {w : World} {b : Nat} {m : List (κ × β)} (h : MapIs mk mv w b m) (K : KeyOk P k mk) (ht : P.underlying t = some (.map k el)) (x : κ) (u : β) :
    ∃ w', (Instr.mapUpdate t (.map (some b)) (mk x) (mv u)).run P w = .ok () w' ∧ MapIs mk mv w' b (aset m x u) ∧ w.grownBy w' (some b) := by
  obtain ⟨es, clock, hb, F, ST⟩ := h
  obtain ⟨d, hd, hs, hck⟩ := K.desc
  have hgrow : ∀ o, w.grownBy (setBlock w b o) (some b) := fun o =>
    ⟨rfl, rfl, rfl, by simp [setBlock], fun i _ hi => heap_setBlock_other hb o (fun e => hi (by rw [e]))⟩
  rcases findNow_spec hs x m es.toList 0 F with ⟨h1, h2, h3⟩ | ⟨j, v, e, h1, h2, h4, h5, h6, h7, _⟩
  · refine ⟨setBlock w b (.map (es.push ⟨mk x, mv u, clock⟩) (clock + 1)), ?_, ⟨_, _, heap_setBlock_same hb _, ?_, MapKept.stamped_push ST (entry_ne K F h1)⟩, hgrow _⟩
    · simp [Instr.mapUpdate, run_underlying ht, MapKept.run_getObj_map hb, hck, Instr.findKey, run_underlying hd, h2, MapKept.run_setObj_map _ hb, Result.andThen, setBlock]
    · rw [h3]; simp [F]
  · have he : (es[j]?).map (·.key) = some (mk x) := by
      rw [← Array.getElem?_toList, h4]; simp [h5]
    refine ⟨setBlock w b (.map (es.modify j fun e => { e with key := mk x, val := mv u }) clock), ?_, ⟨_, _, heap_setBlock_same hb _, ?_, MapKept.stamped_modify ST j _ (fun _ _ => rfl) (fun e' _ he' => by rw [← Array.getElem?_toList, h4] at he'; cases he'; exact h5.symm)⟩, hgrow _⟩
    · simp only [Nat.zero_add] at h2
      simp [Instr.mapUpdate, run_underlying ht, MapKept.run_getObj_map hb, hck, Instr.findKey, run_underlying hd, h2, Result.andThen, he, Instr.keyThatStays, K.bits, MapKept.run_setObj_map _ hb, setBlock]
    · rw [← h7 u]; simp

theorem MapIs.run_delete {t el ty : TypeId} {w : World} {b : Nat} {m : List (κ × β)} (h : MapIs mk mv w b m) (K : KeyOk P k mk) (ht : P.underlying t = some (.map k el)) (x : κ) :
    ∃ w', (Builtin.delete_ #[t, k] ty #[.map (some b), mk x]).run P w = .ok (.tuple #[]) w' ∧ MapIs mk mv w' b (adel m x) ∧ w.grownBy w' (some b) := by
  obtain ⟨es, clock, hb, F, ST⟩ := h
  obtain ⟨d, hd, hs, hck⟩ := K.desc
  have hgrow : ∀ o, w.grownBy (setBlock w b o) (some b) := fun o =>
    ⟨rfl, rfl, rfl, by simp [setBlock], fun i _ hi => heap_setBlock_other hb o (fun e => hi (by rw [e]))⟩
  rcases findNow_spec hs x m es.toList 0 F with ⟨h1, h2, h3⟩ | ⟨j, v, e, h1, h2, h4, h5, h6, _, h7⟩
  · have hdel : adel m x = m := by
      clear F h2 h3
      induction m with
      | nil => rfl
      | cons p r ih =>
        simp only [alook] at h1
        by_cases hx : x = p.1
        · simp [hx] at h1
        · simp [hx] at h1; simp [adel, hx, ih h1]
    refine ⟨setBlock w b (.map es clock), ?_, ⟨_, _, heap_setBlock_same hb _, ?_, ST⟩, hgrow _⟩
    · simp [Builtin.delete_, run_underlying ht, MapKept.run_getObj_map hb, hck, Instr.findKey, run_underlying hd, h2, MapKept.run_setObj_map _ hb, Result.andThen, setBlock]
    · rw [hdel]; exact F
  · refine ⟨setBlock w b (.map (es.eraseIdxIfInBounds j) clock), ?_, ⟨_, _, heap_setBlock_same hb _, ?_, MapKept.stamped_erase ST j⟩, hgrow _⟩
    · simp only [Nat.zero_add] at h2
      simp [Builtin.delete_, run_underlying ht, MapKept.run_getObj_map hb, hck, Instr.findKey, run_underlying hd, h2, MapKept.run_setObj_map _ hb, Result.andThen, setBlock]
    · have hjs : j < es.size := by simpa using h6
      unfold Array.eraseIdxIfInBounds
      rw [dif_pos hjs]
      simpa using h7

/-- 'm[x]' and 'v, ok := m[x]' at the operation, for the walk. -/
theorem wpList_maplook {w : World} {ops : Array Oper} {rest : List Oper} {o : Oper} {a : Act} {Q : Exit → Act → World → Prop} {t el : TypeId}
    (K : KeyOk P k mk) (ht : P.underlying t = some (.map k el)) (hg : o.guard = none) (mo xo : Operand) (c : Bool) (hop : o.op = Op.lookup t mo xo c)
    (z : Value) (hz : (zeroValue el).run P w = .ok z w) (b : Nat) (m : List (κ × β)) (hm : a.eval mo = .map (some b)) (h : MapIs mk mv w b m) (x : κ) (hx : a.eval xo = mk x)
    (hK : wpList P ops Q rest (a.put o.dst (if c then .tuple #[((alook m x).map mv).getD z, .bool (alook m x).isSome] else ((alook m x).map mv).getD z)) w) : wpList P ops Q (o :: rest) a w := by
  refine wpList_plain hg fun K' hK' => ?_
  unfold Oper.wp
  simp [execOp, hop, hm, hx, h.run_lookup K ht hz x c, Result.andThen]
  exact hK' _ _ hK

/-- 'm[x] = u' at the operation, for the walk. -/
theorem wpList_mapset {w : World} {ops : Array Oper} {rest : List Oper} {o : Oper} {a : Act} {Q : Exit → Act → World → Prop} {t el : TypeId}
    (K : KeyOk P k mk) (ht : P.underlying t = some (.map k el)) (hg : o.guard = none) (mo xo vo : Operand) (hop : o.op = Op.mapUpdate t mo xo vo ∨ o.op = Op.insert t mo xo vo)
    (b : Nat) (m : List (κ × β)) (hm : a.eval mo = .map (some b)) (h : MapIs mk mv w b m) (x : κ) (hx : a.eval xo = mk x) (u : β) (hu : a.eval vo = mv u)
    (hK : ∀ w', MapIs mk mv w' b (aset m x u) → w.grownBy w' (some b) → wpList P ops Q rest (a.put o.dst undef) w') : wpList P ops Q (o :: rest) a w := by
  refine wpList_plain hg fun K' hK' => ?_
  obtain ⟨w', hrun, r1, r2⟩ := h.run_update K ht x u
  unfold Oper.wp
  rcases hop with hop | hop
  · simp [execOp, hop, hm, hx, hu, hrun, Result.andThen]
    exact hK' _ _ (hK w' r1 r2)
  · simp [execOp, hop, hm, hx, hu, hrun, Result.andThen]
    exact hK' _ _ (hK w' r1 r2)
end
end Go.Proofs.Yteccpmmedpkddaa
namespace Go.Proofs.Yteccpmmedpkddaa
open Go.RowKit Go.ChangeShapes Go.WideShapes Go.ChangeAt

section
variable {H : Type} {enc : TypeId × Value → H} {P : Program} {W : World}

theorem row_of_cells {p : Addr} {cs : List Value} (h : ∀ i (h : i < cs.length), W.cell? (p.add i) = some cs[i]) : Row W (some p) cs := by
  intro hne
  have h0 : 0 < cs.length := by cases cs with | nil => exact absurd rfl hne | cons a l => simp
  obtain ⟨b, o, s⟩ := p
  have hs : s = none := by
    have := h 0 h0
    cases s with
    | none => rfl
    | some x =>
      have e : (⟨b, o, some x⟩ : Addr).add 0 = ⟨b, o, some x⟩ := by simp [Addr.add]
      rw [e] at this
      simp only [World.cell?] at this
      split at this <;> simp at this
  subst hs
  exact ⟨b, o, rfl, fun i hi => by rw [← addr_add]; exact h i hi⟩

/-- A slice of strings that came in. -/
theorem open_strsRow {t e : TypeId} {base : Nat} {v : Value} {d : DataW H} {ps : List MemPlace} (ht : P.underlying t = some (.slice e)) (he : P.underlying e = some .string) (hc : P.cellsOf e = 1)
    (hv : Value.okWide P W .any base t v) (h : DataW.Trod enc P W 0 (fun _ => true) true t v d ps) :
    ∃ (p : Option Addr) (c : Nat) (xs sp : List ByteArray), v = .slice p xs.length c ∧ xs.length ≤ c ∧ c ≤ maxLen ∧ Row W p (xs.map Value.string) ∧ (∀ s ∈ xs, s.size ≤ maxLen) ∧ (p = none → c = 0) ∧
      ((d = .nil ∧ xs = []) ∨ d = .slice (strs xs) (strs sp)) := by
  obtain ⟨a1, len1, cap1, rfl⟩ := okWide_slice ht hv
  obtain ⟨fuel, hf⟩ := h
  rcases open_strings ht he hc hf with ⟨hcs, hx⟩ | ⟨a, len, cap, ss, hcs, _, hl, hm, hz, hx, hcell, hws⟩
  · simp [Value.cells] at hcs
    obtain ⟨rfl, rfl, rfl⟩ := hcs
    simp only [Prod.mk.injEq] at hx
    exact ⟨none, 0, [], [], rfl, Nat.le_refl _, Nat.zero_le _, Row.nil _ _, by simp, fun _ => rfl, .inl ⟨hx.1, rfl⟩⟩
  · simp [Value.cells] at hcs
    obtain ⟨rfl, rfl, rfl⟩ := hcs
    simp only [Prod.mk.injEq] at hx
    have hlen : (ss.take len1).length = len1 := by simp at hz; simp; omega
    refine ⟨some a, cap1, ss.take len1, ss.drop len1, by rw [hlen], by rw [hlen]; exact hl, hm, ?_, fun s hs => hws s (List.mem_of_mem_take hs), by simp, .inr hx.1⟩
    refine row_of_cells fun i hi => ?_
    have hi' : i < len1 := by simp at hi; omega
    have hi2 : i < ss.length := by simp at hz; omega
    rw [hcell i hi2]
    simp [List.getD, hi2]

theorem reach_strs {ts : List TypeId} {ds : List (DataW H)} {t e : TypeId} (ht : P.underlying t = some (.slice e)) (h : (DataW.weightsEach P ts ds).all (· ≤ reachBytes) = true) {j : Nat} {xs sp : List ByteArray} {d : DataW H}
    (h1 : ts[j]? = some t) (h2 : ds[j]? = some d) (hd : (d = .nil ∧ xs = []) ∨ d = .slice (strs xs) (strs sp)) : ∀ s ∈ xs, s.size ≤ 140737488351232 := by
  intro s hs
  rcases hd with ⟨_, hx⟩ | hd
  · subst hx; cases hs
  · have hmem : s.size ∈ d.weights P t := by
      rw [hd, DataW.weights, ht]
      refine List.mem_cons_of_mem _ (List.mem_append_left _ ?_)
      clear h2 hd
      induction xs with
      | nil => cases hs
      | cons a l ih =>
        simp only [strs, List.map_cons, DataW.weightsAll]
        rcases List.mem_cons.1 hs with rfl | hs
        · refine List.mem_append_left _ ?_
          simp [DataW.weights]
        · exact List.mem_append_right _ (ih hs)
    have := List.all_eq_true.1 h _ (DataW.weights_mem_each h1 h2 _ hmem)
    have h4 : s.size ≤ reachBytes := by simpa using this
    have h5 : reachBytes = 140737488351232 := by decide
    omega

/-- A slice of integers that came in. -/
theorem open_intsRow {t e : TypeId} {k : IntKind} {base : Nat} {v : Value} {d : DataW H} {ps : List MemPlace} (ht : P.underlying t = some (.slice e)) (he : P.underlying e = some (.int k)) (hc : P.cellsOf e = 1)
    (hv : Value.okWide P W .any base t v) (h : DataW.Trod enc P W 0 (fun _ => true) true t v d ps) :
    ∃ (p : Option Addr) (c : Nat) (xs : List Int), v = .slice p xs.length c ∧ xs.length ≤ c ∧ c ≤ maxLen ∧ Row W p (xs.map (Value.int k)) ∧ (∀ n ∈ xs, (Lit.int k n).wf = true) ∧ (p = none → c = 0) := by
  obtain ⟨a1, len1, cap1, rfl⟩ := okWide_slice ht hv
  obtain ⟨fuel, hf⟩ := h
  rcases open_ints ht he hc hf with ⟨hcs, _⟩ | ⟨a, len, cap, zs, hcs, _, hl, hm, hz, _, hcell, hwz⟩
  · simp [Value.cells] at hcs
    obtain ⟨rfl, rfl, rfl⟩ := hcs
    exact ⟨none, 0, [], rfl, Nat.le_refl _, Nat.zero_le _, Row.nil _ _, by simp, fun _ => rfl⟩
  · simp [Value.cells] at hcs
    obtain ⟨rfl, rfl, rfl⟩ := hcs
    have hlen : (zs.take len1).length = len1 := by simp at hz; simp; omega
    refine ⟨some a, cap1, zs.take len1, by rw [hlen], by rw [hlen]; exact hl, hm, ?_, fun s hs => hwz s (List.mem_of_mem_take hs), by simp⟩
    refine row_of_cells fun i hi => ?_
    have hi' : i < len1 := by simp at hi; omega
    have hi2 : i < zs.length := by simp at hz; omega
    rw [hcell i hi2]
    simp [List.getD, hi2]
end
end Go.Proofs.Yteccpmmedpkddaa
