/-
 Words and laws for the walks of this seat, over any program: rows of cells that a slice reads, append onto a row of the call's own from any row, maps as lists of pairs.
 What comes in, opened: slices of strings and of integers as rows of cells.
 What comes in, opened: slices of any elements of a set number of cells, as rows of cells.
 What comes in, opened type by type: each type's cells as those of a value of its own.
 Rows, lines and units as they come in (printed by genopen.py).
 Rows, lines and units as they come in: openers (printed by genopen.py).
 Owned rows whose elements are stored into; owned rows that a call leaves as they lay.
 Append as one step of a region that draws its order.
-/
import Derived.WalkKit
import Derived.Maps.OwnOps
import Derived.Lib.AppendStr
import Derived.Laws.AppendOwnNone
import Derived.Deep.QuietTactic
import Derived.BigQuiet
import Derived.WalkSmall
import Derived.ProofKit
import Derived.OpenShut
import Derived.ShutString
import Derived.ChangeOld
import Derived.SizedLaws
import Derived.SliceStrings
import Derived.Deep.Grids
import Derived.Test.YthlingholhjcnaaProg
import Derived.Deep.RegionLaw
namespace Go.Proofs.Ythlingholhjcnaa
open Go.RowKit
open Go.ChangeMaps (setBlock heap_setBlock_same heap_setBlock_other)
theorem hid {p : Prop} (h : p) : Hid p := h
theorem ret_int {k : IntKind} {a b : Int} (h : a = b) : Ending.returned (.int k a) = Ending.returned (.int k b) := by rw [h]
def Row (w : World) (p : Option Addr) (cs : List Value) : Prop :=
 cs ≠ [] → ∃ b o, p = some ⟨b, o, none⟩ ∧ ∀ i (h : i < cs.length), w.cell? ⟨b, o + i, none⟩ = some cs[i]
theorem Row.nil (w : World) (p : Option Addr) : Row w p [] := fun h => absurd rfl h
theorem Row.at {w : World} {p : Option Addr} {cs : List Value} (h : Row w p cs) (hp : 0 < cs.length) :
  ∃ b o, p = some ⟨b, o, none⟩ ∧ b < w.heap.size ∧ ∀ i (h : i < cs.length), w.cell? ⟨b, o + i, none⟩ = some cs[i] := by
 obtain ⟨b, o, rfl, hc⟩ := h (by intro e; rw [e] at hp; simp at hp)
 exact ⟨b, o, rfl, World.block_lt_of_cell? w _ (hc 0 hp), hc⟩
theorem Row.below {W w : World} {p : Option Addr} {cs : List Value} (h : Row W p cs) (hb : Below W.heap.size W w) : Row w p cs := by
 intro hne
 obtain ⟨b, o, rfl, hc⟩ := h hne
 refine ⟨b, o, rfl, fun i hi => ?_⟩
 have hlt := World.block_lt_of_cell? W _ (hc i hi)
 rw [hb.cell (p := ⟨b, o + i, none⟩) hlt]
 exact hc i hi
theorem Row.kept {w w' : World} {p : Option Addr} {cs : List Value} {row : Option Nat} (h : Row w p cs) (hg : w.grownBy w' row) (hr : ∀ a, p = some a → some a.block ≠ row) : Row w' p cs := by
 intro hne
 obtain ⟨b, o, rfl, hc⟩ := h hne
 exact ⟨b, o, rfl, fun i hi => hg.cell (hc i hi) (hr ⟨b, o, none⟩ rfl)⟩
theorem Row.alloc {w : World} {p : Option Addr} {cs : List Value} (h : Row w p cs) (o : Obj) : Row (w.alloc o) p cs :=
 h.kept (World.grownBy_alloc w o none) (by simp)
theorem Row.cell {w : World} {b o : Nat} {cs : List Value} (h : Row w (some ⟨b, o, none⟩) cs) (i : Nat) (hi : i < cs.length) : w.cell? ⟨b, o + i, none⟩ = some cs[i] := by
 obtain ⟨b', o', e, hc⟩ := h (by intro e; rw [e] at hi; simp at hi)
 cases e
 exact hc i hi
theorem addr_add (b o i : Nat) : (⟨b, o, none⟩ : Addr).add i = ⟨b, o + i, none⟩ := Addr.add_lit _ _ _
theorem own_row {w : World} {base : Nat} {e : TypeId} {size : Nat} {v : Value} {n : Nat} {xs : List Value} (h : w.ownsRow base e size v n xs) :
  ∃ p c, v = .slice p n c ∧ n ≤ c ∧ c ≤ maxLen ∧ Row w p xs ∧ (p = none → n = 0) ∧ (∀ a, p = some a → base ≤ a.block) := by
 rcases h.2 with ⟨rfl, rfl⟩ | ⟨g, cap, cur, rfl, hb, hg, hnc, hcm, hcs, htake⟩
 ·have : xs = [] := List.eq_nil_of_length_eq_zero (by simpa using h.1)
  subst this
  exact ⟨none, 0, rfl, Nat.le_refl _, Nat.zero_le _, Row.nil _ _, fun _ => rfl, by simp⟩
 ·refine ⟨some ⟨g, 0, none⟩, cap, rfl, hnc, hcm, ?_, by simp, by simpa using hb⟩
  intro _
  refine ⟨g, 0, rfl, fun i hi => ?_⟩
  have := h.cells (g := g) rfl i xs[i] (by simp [hi])
  rwa [addr_add] at this
theorem own_shape {w : World} {base : Nat} {e : TypeId} {size : Nat} {v : Value} {n : Nat} {xs : List Value} (h : w.ownsRow base e size v n xs) : ∃ p c, v = .slice p n c ∧ Row w p xs := by
 obtain ⟨p, c, e1, _, _, hr, _⟩ := own_row h
 exact ⟨p, c, e1, hr⟩
theorem row_new (w : World) (cs : List Value) (e : TypeId) : Row (w.alloc (.cells cs.toArray e)) (some ⟨w.heap.size, 0, none⟩) cs := by
 intro _
 refine ⟨w.heap.size, 0, rfl, fun i hi => ?_⟩
 rw [cell_of_row (w.alloc (.cells cs.toArray e)) w.heap.size (0 + i) cs.toArray e (0, 0) (heap_alloc_new w _)]
 simp [hi]
theorem row_newAt (w : World) (cs : List Value) (e : TypeId) (n : Nat) (hn : n = w.heap.size) : Row (w.alloc (.cells cs.toArray e)) (some ⟨n, 0, none⟩) cs := by
 subst hn; exact row_new w cs e
theorem own_new (w : World) (cs : List Value) (e : TypeId) (base n size : Nat) (hb : base ≤ w.heap.size) (hn : cs.length = n * size) (hm : n ≤ maxLen) :
  (w.alloc (.cells cs.toArray e)).ownsRow base e size (.slice (some ⟨w.heap.size, 0, none⟩) n n) n cs :=
 ⟨hn, .inr ⟨w.heap.size, n, cs.toArray, rfl, hb, heap_alloc_new w _, Nat.le_refl _, hm, by simp [hn], by simp [← hn]⟩⟩
structure Elem (P : Program) (t e : TypeId) (size bytes : Nat) (z : Value) : Prop where
 desc : P.underlying t = some (.slice e)
 info : ∃ i, P.info? e = some i ∧ i.zero = some z ∧ i.size = size ∧ i.bytes = bytes
 cells : z.cells.size = size
 pos : 0 < size
theorem Elem.mk' {P : Program} {t e : TypeId} {z : Value} {size bytes : Nat} (h1 : P.underlying t = some (.slice e)) (h2 : (P.info? e).map (fun i => (i.zero, i.size, i.bytes)) = some (some z, size, bytes)) (h3 : z.cells.size = size) (h4 : 0 < size) : Elem P t e size bytes z :=
 ⟨h1, info_parts h2, h3, h4⟩
def Stayed (w : World) (v v' : Value) : Prop := ∀ g, v'.ownBlock = some g → v.ownBlock = some g ∨ w.heap.size ≤ g
theorem stayed_of_ok {P : Program} {w : World} {s : Sem Value} {v v1 v' : Value} {w1 w' : World} (h : s.run P w = .ok v1 w1) (h' : s.run P w = .ok v' w') (hs : Stayed w v v1) : Stayed w v v' := by
 rw [h] at h'
 cases h'
 exact hs
theorem stayed_new (w : World) (v : Value) (n c : Nat) : Stayed w v (.slice (some ⟨w.heap.size, 0, none⟩) n c) := by
 intro g hg
 simp [Value.ownBlock] at hg
 exact .inr (by omega)
def Apart (v u : Value) : Prop := ∀ g, v.ownBlock = some g → u.ownBlock ≠ some g
theorem Apart.symm {v u : Value} (h : Apart v u) : Apart u v := fun g hg hv => h g hv hg
theorem Apart.stayed {w : World} {v v' u : Value} (h : Apart v u) (hs : Stayed w v v') (hu : ∀ g, u.ownBlock = some g → g < w.heap.size) : Apart v' u := by
 intro g hg hug
 rcases hs g hg with h1 | h1
 ·exact h g h1 hug
 ·have := hu g hug; omega
theorem Apart.nil (v : Value) : Apart (.slice none 0 0) v := fun g hg => by simp [Value.ownBlock] at hg
theorem own_lt {w : World} {base : Nat} {e : TypeId} {size : Nat} {v : Value} {n : Nat} {xs : List Value} (h : w.ownsRow base e size v n xs) : ∀ g, v.ownBlock = some g → g < w.heap.size := fun g hg => (h.lt g hg).2
theorem own_ge {w : World} {base : Nat} {e : TypeId} {size : Nat} {v : Value} {n : Nat} {xs : List Value} (h : w.ownsRow base e size v n xs) : ∀ g, v.ownBlock = some g → base ≤ g := fun g hg => (h.lt g hg).1
theorem own_kept {w w' : World} {base : Nat} {e : TypeId} {size : Nat} {v u : Value} {n : Nat} {xs : List Value} (h : w.ownsRow base e size v n xs) (hg : w.grownBy w' u.ownBlock) (ha : Apart v u) : w'.ownsRow base e size v n xs := by
 refine h.kept hg ?_
 cases hv : v.ownBlock with
 | none => exact .inl rfl
 | some g => exact .inr (fun e => ha g hv e.symm)
section
variable {P : Program} {w : World} {t e : TypeId} {size bytes : Nat} {z : Value}
theorem app_stayed (E : Elem P t e size bytes z) (ty : TypeId) (base : Nat) (v : Value) (n : Nat) (xs : List Value) (hown : w.ownsRow base e size v n xs)
  (a : Addr) (m c : Nat) (news : List Value) (hl : news.length = m * size) (hnews : ∀ j u, news[j]? = some u → w.cell? (a.add j) = some u) (h1 : ∀ u ∈ news, u.oneCell' = true)
  (h63 : n + m ≤ maxLen) (hbytes : (n + m) * bytes ≤ 140737488355328) {v' : Value} {w' : World} (hr : (Builtin.append_ #[t, t] ty #[v, .slice (some a) m c]).run P w = .ok v' w') : Stayed w v v' := by
 obtain ⟨i, hi, hz, hsz, hby⟩ := E.info
 subst hsz
 subst hby
 have hsmall : n + m ≤ 9223372036854775807 := by simp only [maxLen] at h63; omega
 rcases hown.2 with ⟨rfl, rfl⟩ | ⟨g, cap, cur, rfl, hbg, hg, hnc, hcm, hcs, htake⟩
 ·by_cases hm : m = 0
  ·subst hm
   have hn : news = [] := List.eq_nil_of_length_eq_zero (by simpa using hl)
   subst hn
   refine stayed_of_ok (w1 := w) (v1 := .slice none 0 0) ?_ hr (fun g hg => .inl hg)
   simp [Builtin.append_, run_underlying E.desc, sizeOf, typeInfo, hi, Builtin.lenOf, Builtin.firstCells, loadCells, loadCellsFrom]
  ·exact stayed_of_ok (run_append_nil (P := P) w t ty e i z E.desc hi hz a m c news hl hnews (by omega) (by omega) (by have hb := hbytes; simp only [Nat.zero_add] at hb; omega)) hr (stayed_new _ _ _ _)
 ·by_cases hroom : n + m ≤ cap
  ·have hfit : n * i.size + news.length ≤ cur.size := by rw [hl, hcs, ← Nat.add_mul]; exact Nat.mul_le_mul_right _ hroom
   exact stayed_of_ok (run_append_room (P := P) w t ty e i E.desc hi g n cap cur hg a m c news hl hnews h1 hroom hfit) hr (fun g' hg' => .inl hg')
  ·have holds : ∀ j u, xs[j]? = some u → w.cell? ((⟨g, 0, none⟩ : Addr).add j) = some u := hown.cells (g := g) rfl
   exact stayed_of_ok (run_append_grow (P := P) w t ty e i z E.desc hi hz ⟨g, 0, none⟩ n cap xs hown.1 holds a m c news hl hnews (by omega) (by omega) (growslice_fits (by omega) hbytes)) hr (stayed_new _ _ _ _)
variable {ops : Array Oper} {rest : List Oper} {o : Oper} {a : Act} {Q : Exit → Act → World → Prop}
theorem wpList_app (E : Elem P t e size bytes z) (hgd : o.guard = none) (s x : Operand)
  (ho : o.op = .call { callee := .builtin .append, args := #[s, x], argTypes := #[t, t] })
  (base : Nat) (v : Value) (n : Nat) (xs : List Value) (hs : a.eval s = v) (hown : w.ownsRow base e size v n xs)
  (p : Option Addr) (m c : Nat) (news : List Value) (hx : a.eval x = .slice p m c) (hl : news.length = m * size) (hnil : p = none → c = 0) (hrow : Row w p news) (h1 : ∀ u ∈ news, u.oneCell' = true)
  (h63 : n + m ≤ maxLen) (hbytes : (n + m) * bytes ≤ 140737488355328) (hbase : base ≤ w.heap.size)
  (h : ∀ v' w', w'.ownsRow base e size v' (n + m) (xs ++ news) → w.grownBy w' v.ownBlock → Stayed w v v' → wpList P ops Q rest (a.put o.dst v') w') : wpList P ops Q (o :: rest) a w := by
 obtain ⟨i, hi, hz, hsz, hby⟩ := E.info
 cases p with
 | none =>
  have hc : c = 0 := hnil rfl
  subst hc
  have hn : news = [] := by
   apply Classical.byContradiction
   intro hne
   obtain ⟨b, o, e1, _⟩ := hrow hne
   cases e1
  subst hn
  have hm : m = 0 := by
   have := E.pos
   have hl' : 0 = m * size := hl
   rcases Nat.mul_eq_zero.1 hl'.symm with h0 | h0
   ·exact h0
   ·omega
  subst hm
  refine wpList_append_own_none hgd s x t ho base e i size E.desc hi v n xs hs hown hx (h v w (by simpa using hown) (World.grownBy.refl _ _) (fun g hg => .inl hg))
 | some ad =>
  have hnews : ∀ j u, news[j]? = some u → w.cell? (ad.add j) = some u := by
   intro j u hj
   have hjl : j < news.length := (List.getElem?_eq_some_iff.1 hj).1
   obtain ⟨b, o, e1, hc⟩ := hrow (by intro e1; rw [e1] at hjl; simp at hjl)
   cases e1
   rw [addr_add, hc j hjl]
   rw [List.getElem?_eq_getElem hjl] at hj
   exact hj
  refine wpList_plain hgd fun K hK => ?_
  obtain ⟨v', w', hr, h2, h3, _⟩ := run_append_own (P := P) w base t o.type e i z size bytes E.desc hi hz hsz hby E.cells E.pos v n xs hown ad m c news hl hnews h1 h63 hbytes hbase
  have h4 := app_stayed E o.type base v n xs hown ad m c news hl hnews h1 h63 hbytes hr
  unfold Oper.wp execOp
  simp only [ho, resolve, invoke, builtin, Sem.run_bind, Sem.run_pure, Result.andThen_ok, List.map_toArray, List.map_cons, List.map_nil, hs, hx, hr]
  exact hK _ _ (h v' w' h2 h3 h4)
end
section
variable {P : Program} {w : World} {t e : TypeId} {size bytes : Nat} {z : Value} {ops : Array Oper} {rest : List Oper} {o : Oper} {a : Act} {Q : Exit → Act → World → Prop}
end
/-! ### Maps as lists of pairs, in the order in which their keys came. -/
structure KeyOk {κ : Type} (P : Program) (k : TypeId) (mk : κ → Value) [DecidableEq κ] : Prop where
 desc : ∃ d, P.underlying k = some d ∧ (∀ a b, Instr.sameNow d (mk a) (mk b) = some (decide (a = b))) ∧ (∀ (w : World) em a, (Instr.checkKey em 10000 k (mk a)).run P w = .ok () w)
 bits : ∀ a, Instr.sameBits 10000 (mk a) (mk a) = true
theorem beq_ba (a b : ByteArray) : (a == b) = decide (a = b) := by
 rw [beq_toListBytes]
 by_cases h : a = b
 ·simp [h]
 ·have hn : ¬ a.toList = b.toList := fun e => h (by
   rw [ByteArray.toList_eq, ByteArray.toList_eq] at e
   cases a; cases b; simp at e; simp [e])
  simp [h, hn]
theorem strEq {a b : ByteArray} (h : a = b) : (a.toList == b.toList) = true := by rw [← beq_toListBytes, beq_ba]; simp [h]
theorem strNe {a b : ByteArray} (h : a ≠ b) : (a.toList == b.toList) = false := by rw [← beq_toListBytes, beq_ba]; simp [h]
theorem keyOk_string {P : Program} {k : TypeId} (h : P.underlying k = some .string) : KeyOk P k Value.string := by
 refine ⟨⟨.string, h, fun a b => by simp [Instr.sameNow, beq_ba], fun w em a => ?_⟩, fun a => by simp [Instr.sameBits, beq_ba]⟩
 exact MapKept.run_checkKey (k := .string a) h True.intro em 9999
section
variable {κ β : Type} [DecidableEq κ] {P : Program} {k : TypeId} {mk : κ → Value} {mv : β → Value}
def alook : List (κ × β) → κ → Option β
 | [], _ => none
 | (a, v) :: r, x => if x = a then some v else alook r x
def aset : List (κ × β) → κ → β → List (κ × β)
 | [], x, u => [(x, u)]
 | (a, v) :: r, x, u => if x = a then (a, u) :: r else (a, v) :: aset r x u
def adel : List (κ × β) → κ → List (κ × β)
 | [], _ => []
 | (a, v) :: r, x => if x = a then r else (a, v) :: adel r x
def MapIs (mk : κ → Value) (mv : β → Value) (w : World) (b : Nat) (m : List (κ × β)) : Prop :=
 ∃ es clock, w.heap[b]? = some (.map es clock) ∧ es.toList.map (fun x => (x.key, x.val)) = m.map (fun x => (mk x.1, mv x.2)) ∧ MapKept.Stamped es clock
omit [DecidableEq κ] in
theorem MapIs.lt {w : World} {b : Nat} {m : List (κ × β)} (h : MapIs mk mv w b m) : b < w.heap.size := by
 obtain ⟨es, clock, hb, _⟩ := h
 exact (Array.getElem?_eq_some_iff.1 hb).1
omit [DecidableEq κ] in
theorem MapIs.kept {w w' : World} {b : Nat} {m : List (κ × β)} {row : Option Nat} (h : MapIs mk mv w b m) (hg : w.grownBy w' row) (hne : some b ≠ row) : MapIs mk mv w' b m := by
 have hlt := h.lt
 obtain ⟨es, clock, hb, F⟩ := h
 exact ⟨es, clock, (hg.block b hlt hne).trans hb, F⟩
omit [DecidableEq κ] in
theorem MapIs.alloc {w : World} {b : Nat} {m : List (κ × β)} (h : MapIs mk mv w b m) (o : Obj) : MapIs mk mv (w.alloc o) b m := h.kept (World.grownBy_alloc w o none) (by simp)
omit [DecidableEq κ] in
theorem MapIs.below {B : Nat} {w w' : World} {b : Nat} {m : List (κ × β)} (h : MapIs mk mv w b m) (hb : Below B w w') (hlt : b < B) : MapIs mk mv w' b m := by
 obtain ⟨es, clock, h1, F⟩ := h
 exact ⟨es, clock, (hb.block b hlt).trans h1, F⟩
omit [DecidableEq κ] in
theorem MapIs.made (mk : κ → Value) (mv : β → Value) (w : World) : MapIs mk mv (w.alloc (.map #[] 0)) w.heap.size [] := ⟨#[], 0, heap_alloc_new w _, rfl, MapKept.stamped_empty 0⟩
theorem findNow_spec {d : TypeDesc} (hd : ∀ a b, Instr.sameNow d (mk a) (mk b) = some (decide (a = b))) (x : κ) :
  ∀ (m : List (κ × β)) (es : List MapEntry) (i : Nat), es.map (fun x => (x.key, x.val)) = m.map (fun x => (mk x.1, mv x.2)) →
  (alook m x = none ∧ Instr.findNow d (mk x) es i = some none ∧ ∀ u, aset m x u = m ++ [(x, u)]) ∨
  ∃ j v e, alook m x = some v ∧ Instr.findNow d (mk x) es i = some (some (i + j, mv v)) ∧ es[j]? = some e ∧ e.key = mk x ∧ j < es.length ∧
   (∀ u, (es.modify j (fun e => { e with key := mk x, val := mv u })).map (fun x => (x.key, x.val)) = (aset m x u).map (fun x => (mk x.1, mv x.2))) ∧
   (es.eraseIdx j).map (fun x => (x.key, x.val)) = (adel m x).map (fun x => (mk x.1, mv x.2)) := by
 intro m
 induction m with
 | nil =>
  intro es i h
  have : es = [] := by simpa using h
  subst this
  exact .inl ⟨rfl, rfl, fun _ => rfl⟩
 | cons p r ih =>
  intro es i h
  cases es with
  | nil => simp at h
  | cons e es =>
   simp only [List.map_cons, List.cons.injEq, Prod.mk.injEq] at h
   obtain ⟨⟨hk, hv⟩, hr⟩ := h
   by_cases hx : x = p.1
   ·right
    subst hx
    refine ⟨0, p.2, e, by simp [alook], ?_, rfl, hk, by simp, fun u => ?_, ?_⟩
    ·simp [Instr.findNow, hk, hd, hv]
    ·simp [aset, List.modify, hr]
    ·simp [adel, hr]
   ·have hn : Instr.sameNow d (mk x) e.key = some false := by rw [hk, hd]; simp [hx]
    rcases ih es (i + 1) hr with ⟨h1, h2, h3⟩ | ⟨j, v, e', h1, h2, h3, h4, h5, h6, h7⟩
    ·exact .inl ⟨by simp [alook, hx, h1], by simp [Instr.findNow, hn, h2], fun u => by simp [aset, hx, h3]⟩
    ·refine .inr ⟨j + 1, v, e', by simp [alook, hx, h1], by simp [Instr.findNow, hn, h2]; omega, by simpa using h3, h4, by simp; omega, fun u => ?_, ?_⟩
     ·simp [aset, hx, h6, hk, hv]
     ·simp [adel, hx, h7, hk, hv]
theorem alook_ne {x : κ} : ∀ {m : List (κ × β)}, alook m x = none → ∀ p ∈ m, p.1 ≠ x
 | (a, v) :: r, h, p, hp => by
  by_cases hx : x = a
  ·simp [alook, hx] at h
  ·simp [alook, hx] at h
   rcases List.mem_cons.1 hp with rfl | hp
   ·exact fun e => hx e.symm
   ·exact alook_ne h p hp
theorem KeyOk.inj (K : KeyOk P k mk) {a b : κ} (h : mk a = mk b) : a = b := by
 obtain ⟨d, _, hs, _⟩ := K.desc
 have h1 := hs a a
 have h2 := hs a b
 rw [← h, h1] at h2
 simpa using h2
theorem entry_ne (K : KeyOk P k mk) {es : Array MapEntry} {m : List (κ × β)} (F : es.toList.map (fun x => (x.key, x.val)) = m.map (fun x => (mk x.1, mv x.2))) {x : κ} (h : alook m x = none) : ∀ e ∈ es.toList, e.key ≠ mk x := fun e he hk => by
 have hm : (e.key, e.val) ∈ m.map (fun x => (mk x.1, mv x.2)) := by rw [← F]; exact List.mem_map_of_mem (f := fun x : MapEntry => (x.key, x.val)) he
 obtain ⟨p, hp, hpe⟩ := List.mem_map.1 hm
 have : mk p.1 = mk x := (congrArg Prod.fst hpe).trans hk
 exact alook_ne h p hp (K.inj this)
theorem MapIs.run_lookup {t el : TypeId} {w : World} {b : Nat} {m : List (κ × β)} (h : MapIs mk mv w b m) (K : KeyOk P k mk) (ht : P.underlying t = some (.map k el)) {z : Value} (hz : (zeroValue el).run P w = .ok z w) (x : κ) (c : Bool) :
  (Instr.lookup t (.map (some b)) (mk x) c).run P w = .ok (if c then .tuple #[((alook m x).map mv).getD z, .bool (alook m x).isSome] else ((alook m x).map mv).getD z) w := by
 obtain ⟨es, clock, hb, F, ST⟩ := h
 obtain ⟨d, hd, hs, hck⟩ := K.desc
 rcases findNow_spec hs x m es.toList 0 F with ⟨h1, h2, _⟩ | ⟨j, v, e, h1, h2, _⟩
 ·simp [Instr.lookup, run_underlying ht, MapKept.run_getObj_map hb, hck, Instr.findKey, run_underlying hd, h2, h1, hz, Result.andThen]
 ·simp [Instr.lookup, run_underlying ht, MapKept.run_getObj_map hb, hck, Instr.findKey, run_underlying hd, h2, h1, Result.andThen]
theorem MapIs.run_update {t el : TypeId} {w : World} {b : Nat} {m : List (κ × β)} (h : MapIs mk mv w b m) (K : KeyOk P k mk) (ht : P.underlying t = some (.map k el)) (x : κ) (u : β) :
  ∃ w', (Instr.mapUpdate t (.map (some b)) (mk x) (mv u)).run P w = .ok () w' ∧ MapIs mk mv w' b (aset m x u) ∧ w.grownBy w' (some b) := by
 obtain ⟨es, clock, hb, F, ST⟩ := h
 obtain ⟨d, hd, hs, hck⟩ := K.desc
 have hgrow : ∀ o, w.grownBy (setBlock w b o) (some b) := fun o =>
  ⟨rfl, rfl, rfl, by simp [setBlock], fun i _ hi => heap_setBlock_other hb o (fun e => hi (by rw [e]))⟩
 rcases findNow_spec hs x m es.toList 0 F with ⟨h1, h2, h3⟩ | ⟨j, v, e, h1, h2, h4, h5, h6, h7, _⟩
 ·refine ⟨setBlock w b (.map (es.push ⟨mk x, mv u, clock⟩) (clock + 1)), ?_, ⟨_, _, heap_setBlock_same hb _, ?_, MapKept.stamped_push ST (entry_ne K F h1)⟩, hgrow _⟩
  ·simp [Instr.mapUpdate, run_underlying ht, MapKept.run_getObj_map hb, hck, Instr.findKey, run_underlying hd, h2, MapKept.run_setObj_map _ hb, Result.andThen, setBlock]
  ·rw [h3]; simp [F]
 ·have he : (es[j]?).map (·.key) = some (mk x) := by
   rw [← Array.getElem?_toList, h4]; simp [h5]
  refine ⟨setBlock w b (.map (es.modify j fun e => { e with key := mk x, val := mv u }) clock), ?_, ⟨_, _, heap_setBlock_same hb _, ?_, MapKept.stamped_modify ST j _ (fun _ _ => rfl) (fun e' _ he' => by rw [← Array.getElem?_toList, h4] at he'; cases he'; exact h5.symm)⟩, hgrow _⟩
  ·simp only [Nat.zero_add] at h2
   simp [Instr.mapUpdate, run_underlying ht, MapKept.run_getObj_map hb, hck, Instr.findKey, run_underlying hd, h2, Result.andThen, he, Instr.keyThatStays, K.bits, MapKept.run_setObj_map _ hb, setBlock]
  ·rw [← h7 u]; simp
theorem wpList_maplook {w : World} {ops : Array Oper} {rest : List Oper} {o : Oper} {a : Act} {Q : Exit → Act → World → Prop} {t el : TypeId}
  (K : KeyOk P k mk) (ht : P.underlying t = some (.map k el)) (hg : o.guard = none) (mo xo : Operand) (c : Bool) (hop : o.op = Op.lookup t mo xo c)
  (z : Value) (hz : (zeroValue el).run P w = .ok z w) (b : Nat) (m : List (κ × β)) (hm : a.eval mo = .map (some b)) (h : MapIs mk mv w b m) (x : κ) (hx : a.eval xo = mk x)
  (hK : wpList P ops Q rest (a.put o.dst (if c then .tuple #[((alook m x).map mv).getD z, .bool (alook m x).isSome] else ((alook m x).map mv).getD z)) w) : wpList P ops Q (o :: rest) a w := by
 refine wpList_plain hg fun K' hK' => ?_
 unfold Oper.wp
 simp [execOp, hop, hm, hx, h.run_lookup K ht hz x c, Result.andThen]
 exact hK' _ _ hK
theorem wpList_mapset {w : World} {ops : Array Oper} {rest : List Oper} {o : Oper} {a : Act} {Q : Exit → Act → World → Prop} {t el : TypeId}
  (K : KeyOk P k mk) (ht : P.underlying t = some (.map k el)) (hg : o.guard = none) (mo xo vo : Operand) (hop : o.op = Op.mapUpdate t mo xo vo ∨ o.op = Op.insert t mo xo vo)
  (b : Nat) (m : List (κ × β)) (hm : a.eval mo = .map (some b)) (h : MapIs mk mv w b m) (x : κ) (hx : a.eval xo = mk x) (u : β) (hu : a.eval vo = mv u)
  (hK : ∀ w', MapIs mk mv w' b (aset m x u) → w.grownBy w' (some b) → wpList P ops Q rest (a.put o.dst undef) w') : wpList P ops Q (o :: rest) a w := by
 refine wpList_plain hg fun K' hK' => ?_
 obtain ⟨w', hrun, r1, r2⟩ := h.run_update K ht x u
 unfold Oper.wp
 rcases hop with hop | hop
 ·simp [execOp, hop, hm, hx, hu, hrun, Result.andThen]
  exact hK' _ _ (hK w' r1 r2)
 ·simp [execOp, hop, hm, hx, hu, hrun, Result.andThen]
  exact hK' _ _ (hK w' r1 r2)
end
end Go.Proofs.Ythlingholhjcnaa
namespace Go.Proofs.Ythlingholhjcnaa
open Go.RowKit Go.ChangeShapes Go.WideShapes Go.ChangeAt
section
variable {H : Type} {enc : TypeId × Value → H} {P : Program} {W : World}
theorem row_of_cells {p : Addr} {cs : List Value} (h : ∀ i (h : i < cs.length), W.cell? (p.add i) = some cs[i]) : Row W (some p) cs := by
 intro hne
 have h0 : 0 < cs.length := by cases cs with | nil => exact absurd rfl hne | cons a l => simp
 obtain ⟨b, o, s⟩ := p
 have hs : s = none := by
  have := h 0 h0
  cases s with
  | none => rfl
  | some x =>
   have e : (⟨b, o, some x⟩ : Addr).add 0 = ⟨b, o, some x⟩ := by simp [Addr.add]
   rw [e] at this
   simp only [World.cell?] at this
   split at this <;> simp at this
 subst hs
 exact ⟨b, o, rfl, fun i hi => by rw [← addr_add]; exact h i hi⟩
end
end Go.Proofs.Ythlingholhjcnaa
namespace Go.Proofs.Ythlingholhjcnaa
open Go.RowKit Go.ChangeShapes Go.WideShapes Go.ChangeAt
theorem flat_len {α : Type} (f : α → List Value) (k : Nat) (hk : ∀ x, (f x).length = k) (xs : List α) : (xs.flatMap f).length = k * xs.length := by
 induction xs with
 | nil => rfl
 | cons a l ih => simp only [List.flatMap_cons, List.length_append, hk, ih, List.length_cons]; rw [Nat.mul_succ]; omega
theorem flat_get {α : Type} (f : α → List Value) (k : Nat) (hk : ∀ x, (f x).length = k) : ∀ (xs : List α) (q : Nat) (h : q < xs.length) (j : Nat) (_ : j < k), (xs.flatMap f)[k * q + j]? = (f xs[q])[j]?
 | [], q, h, _, _ => by simp at h
 | a :: l, 0, _, j, hj => by
  rw [List.flatMap_cons, List.getElem?_append_left (by rw [hk]; omega)]
  simp
 | a :: l, q + 1, h, j, hj => by
  rw [List.flatMap_cons, List.getElem?_append_right (by rw [hk, Nat.mul_succ]; omega), hk]
  have := flat_get f k hk l q (by simpa using h) j hj
  rw [show k * (q + 1) + j - k = k * q + j by rw [Nat.mul_succ]; omega, this]
  simp
section
variable {H : Type} {enc : TypeId × Value → H} {P : Program} {W : World}
end
end Go.Proofs.Ythlingholhjcnaa
namespace Go.Proofs.Ythlingholhjcnaa
open Go.RowKit Go.ChangeShapes Go.WideShapes Go.ChangeAt
section
variable {H : Type} (enc : TypeId × Value → H) (P : Program) (W : World)
def Light (t : TypeId) (d : DataW H) : Prop := ∀ m ∈ d.weights P t, m ≤ 140737488351232
def OpensAs (t : TypeId) {α : Type} (f : α → List Value) (ok : α → Prop) : Prop :=
 ∀ (n : Nat) (cs : List Value) (y : DataW H × List MemPlace), DataW.trod enc P W 0 (fun _ => true) true n t cs = some y → Light P t y.1 → ∃ x, cs = f x ∧ ok x
variable {enc P W}
theorem light_all {t : TypeId} : ∀ {ds : List (DataW H)} {d : DataW H}, d ∈ ds → (∀ m ∈ DataW.weightsAll P t ds, m ≤ 140737488351232) → Light P t d
 | [], d, h, _ => by cases h
 | a :: l, d, h, hw => by
  simp only [DataW.weightsAll, List.mem_append] at hw
  rcases List.mem_cons.1 h with rfl | h
  ·exact fun m hm => hw m (.inl hm)
  ·exact light_all h (fun m hm => hw m (.inr hm))
theorem light_each : ∀ {ts : List TypeId} {ds : List (DataW H)} {j : Nat} {t : TypeId} {d : DataW H}, ts[j]? = some t → ds[j]? = some d → (∀ m ∈ DataW.weightsEach P ts ds, m ≤ 140737488351232) → Light P t d :=
 fun h1 h2 hw m hm => hw m (DataW.weights_mem_each h1 h2 m hm)
theorem light_field {t : TypeId} {fs : Array Field} {xs : List (DataW H × List MemPlace)} (ht : P.underlying t = some (.struct fs)) (h : Light P t (.agg (xs.map (·.1)))) {j : Nat} {f : Field} {y : DataW H × List MemPlace} (hf : fs[j]? = some f) (hx : xs[j]? = some y) : Light P f.type y.1 := by
 refine light_each (ts := fs.toList.map (·.type)) (ds := xs.map (·.1)) (j := j) (by simp [hf]) (by simp [hx]) ?_
 intro m hm
 refine h m ?_
 rw [DataW.weights, ht]
 exact hm
theorem opens_int {t : TypeId} {k : IntKind} (ht : P.underlying t = some (.int k)) : OpensAs enc P W t (fun n : Int => [Value.int k n]) (fun n => (Lit.int k n).wf = true) := fun n cs y h _ => by
 obtain ⟨m, e, _, w⟩ := DataW.trod_int ht h
 exact ⟨m, e, w⟩
theorem opens_bool {t : TypeId} (ht : P.underlying t = some .bool) : OpensAs enc P W t (fun b : Bool => [Value.bool b]) (fun _ => True) := fun n cs y h _ => by
 obtain ⟨b, e, _⟩ := DataW.trod_bool ht h
 exact ⟨b, e, trivial⟩
theorem opens_intSlice {t e : TypeId} {k : IntKind} (ht : P.underlying t = some (.slice e)) (he : P.underlying e = some (.int k)) (hc : P.cellsOf e = 1) (bytes : Nat) (hby : P.bytesOf e = bytes) :
  OpensAs enc P W t (fun z : Option Addr × Nat × List Int => [Value.slice z.1 z.2.2.length z.2.1]) (fun z => z.2.2.length ≤ z.2.1 ∧ z.2.1 ≤ maxLen ∧ (z.1 = none → z.2.1 = 0) ∧ Row W z.1 (z.2.2.map (Value.int k)) ∧ (∀ n ∈ z.2.2, (Lit.int k n).wf = true) ∧ z.2.1 * bytes ≤ 140737488351232) := fun n cs y h hlt => by
 rcases open_ints ht he hc h with ⟨hcs, _⟩ | ⟨a, len, cap, zs, hcs, _, hl, hm, hz, hy, hcell, hwz⟩
 ·exact ⟨(none, 0, []), hcs, Nat.le_refl _, Nat.zero_le _, fun _ => rfl, Row.nil _ _, by simp, by simp⟩
 ·have hwt : cap * bytes ≤ 140737488351232 := by
   have hz : zs.length = cap := by simpa using hz
   refine hlt _ ?_
   rw [hy, DataW.weights, ht]
   refine List.mem_cons.2 (.inl ?_)
   rw [hby]
   congr 1
   simp [lits]; omega
  have hz : zs.length = cap := by simpa using hz
  have hlen : (zs.take len).length = len := by simp; omega
  refine ⟨(some a, cap, zs.take len), by rw [hcs]; simp only [hlen], by rw [hlen]; exact hl, hm, by simp, ?_, fun s hs => hwz s (List.mem_of_mem_take hs), hwt⟩
  refine row_of_cells fun i hi => ?_
  have hi' : i < len := by simp at hi; omega
  have hi2 : i < zs.length := by omega
  rw [hcell i hi2]
  simp [List.getD, hi2]
theorem opens_slice {α : Type} {f : α → List Value} {ok : α → Prop} {t e : TypeId} {k : Nat} (ht : P.underlying t = some (.slice e)) (hc : P.cellsOf e = k) (hk0 : 0 < k) (hk : ∀ x, (f x).length = k) (hel : OpensAs enc P W e f ok) :
  OpensAs enc P W t (fun z : Option Addr × Nat × List α => [Value.slice z.1 z.2.2.length z.2.1]) (fun z => z.2.2.length ≤ z.2.1 ∧ z.2.1 ≤ maxLen ∧ (z.1 = none → z.2.1 = 0) ∧ Row W z.1 (z.2.2.flatMap f) ∧ (∀ x ∈ z.2.2, ok x) ∧ z.2.1 * P.bytesOf e ≤ 140737488351232) := fun n cs y hf hlt => by
 rcases Go.Deep.open_slice ht hf with ⟨hcs, _⟩ | ⟨a, len, cap, m, n, D, Pl, hcs, _, hl, hm, hmm, hy, hx⟩
 ·exact ⟨(none, 0, []), hcs, Nat.le_refl _, Nat.zero_le _, fun _ => rfl, Row.nil _ _, by simp, by simp⟩
 ·simp only [if_true] at hmm
  subst hmm
  have hwt : m * P.bytesOf e ≤ 140737488351232 := by
   refine hlt _ ?_
   rw [hy, DataW.weights, ht]
   refine List.mem_cons.2 (.inl ?_)
   congr 1
   simp; omega
  have hwe : ∀ i, i < len → Light P e (D i) := fun i hi => by
   refine light_all (ds := (List.range len).map D) (List.mem_map.2 ⟨i, List.mem_range.2 hi, rfl⟩) (fun m' hm' => hlt m' ?_)
   rw [hy, DataW.weights, ht]
   exact List.mem_cons_of_mem _ (List.mem_append_left _ hm')
  have each : ∀ i, i < len → ∃ x, ok x ∧ W.cells? 0 (a.add (i * k)) k = some (f x) := fun i hi => by
   obtain ⟨cs', h1, h2⟩ := hx i (by omega)
   obtain ⟨x, rfl, hok⟩ := hel _ _ _ h2 (hwe i hi)
   rw [hc] at h1
   exact ⟨x, hok, h1⟩
  have build : ∀ j, j ≤ len → ∃ xs : List α, xs.length = j ∧ ∀ i (hi : i < xs.length), ok xs[i] ∧ W.cells? 0 (a.add (i * k)) k = some (f xs[i]) := by
   intro j
   induction j with
   | zero => exact fun _ => ⟨[], rfl, by simp⟩
   | succ j ih =>
    intro hj
    obtain ⟨xs, hxl, hxs⟩ := ih (by omega)
    obtain ⟨x, hok, hce⟩ := each j (by omega)
    refine ⟨xs ++ [x], by simp [hxl], fun i hi => ?_⟩
    by_cases hij : i < xs.length
    ·rw [List.getElem_append_left hij]; exact hxs i hij
    ·have : i = xs.length := by simp at hi; omega
     subst this
     rw [← hxl] at hce
     simp only [List.getElem_append_right (Nat.le_refl _), Nat.sub_self, List.getElem_singleton]
     exact ⟨hok, hce⟩
  obtain ⟨xs, hxl, hxs⟩ := build len (Nat.le_refl _)
  refine ⟨(some a, m, xs), by rw [hcs]; simp only [hxl], by rw [hxl]; exact hl, hm, by simp, ?_, fun x hxm => ?_, hwt⟩
  ·refine row_of_cells fun i hi => ?_
   simp only at hi ⊢
   rw [flat_len f k hk] at hi
   have hq : i / k < xs.length := (Nat.div_lt_iff_lt_mul hk0).2 (by rw [Nat.mul_comm]; exact hi)
   have hr := Nat.mod_lt i hk0
   have hi2 : k * (i / k) + i % k = i := Nat.div_add_mod i k
   obtain ⟨_, hlen, hcell⟩ := World.cells?_some (hxs _ hq).2
   have e1 := hcell (i % k) hr
   have e2 := flat_get f k hk xs (i / k) hq (i % k) hr
   rw [hi2] at e2
   have e3 : (a.add (i / k * k)).add (i % k) = a.add i := by rw [Go.Deep.add_add, Nat.mul_comm, hi2]
   rw [e3] at e1
   rw [e1, ← e2]
   exact List.getElem?_eq_getElem _
  ·obtain ⟨i, hi, rfl⟩ := List.getElem_of_mem hxm
   exact (hxs i hi).1
theorem param_struct {α : Type} {f : α → List Value} {ok : α → Prop} {t : TypeId} {fs : Array Field} {base : Nat} {v : Value} {d : DataW H} {ps : List MemPlace} (ht : P.underlying t = some (.struct fs)) (ho : OpensAs enc P W t f ok)
  (hv : Value.okWide P W .any base t v) (h : DataW.Trod enc P W 0 (fun _ => true) true t v d ps) (hlt : Light P t d) : ∃ x, v = .agg (f x).toArray ∧ ok x := by
 obtain ⟨cs, rfl, _⟩ := okWide_struct ht hv
 obtain ⟨n, hf⟩ := h
 obtain ⟨x, e, hok⟩ := ho _ _ _ hf hlt
 refine ⟨x, ?_, hok⟩
 have e2 : cs.toList = f x := by simpa [Value.cells] using e
 rw [← e2]
theorem param_slice {α : Type} {f : α → List Value} {ok : α → Prop} {t e : TypeId} {base : Nat} {v : Value} {d : DataW H} {ps : List MemPlace} (ht : P.underlying t = some (.slice e)) (ho : OpensAs enc P W t f ok)
  (hv : Value.okWide P W .any base t v) (h : DataW.Trod enc P W 0 (fun _ => true) true t v d ps) (hlt : Light P t d) : ∃ x, [v] = f x ∧ ok x := by
 obtain ⟨a1, len1, cap1, rfl⟩ := okWide_slice ht hv
 obtain ⟨n, hf⟩ := h
 obtain ⟨x, e, hok⟩ := ho _ _ _ hf hlt
 exact ⟨x, by simpa [Value.cells] using e, hok⟩
theorem light_param {ts : List TypeId} {ds : List (DataW H)} {j : Nat} {t : TypeId} {d : DataW H} (h : (DataW.weightsEach P ts ds).all (· ≤ reachBytes) = true) (h1 : ts[j]? = some t) (h2 : ds[j]? = some d) : Light P t d :=
 light_each h1 h2 (fun m hm => by
  have := List.all_eq_true.1 h m hm
  have h4 : m ≤ reachBytes := by simpa using this
  have h5 : reachBytes = 140737488351232 := by decide
  omega)
end
end Go.Proofs.Ythlingholhjcnaa
namespace Go.Proofs.Ythlingholhjcnaa
open Go.RowKit
def inI64 (n : Int) : Prop := -9223372036854775808 ≤ n ∧ n ≤ 9223372036854775807
structure Sl (α : Type) where
 p : Option Addr
 c : Nat
 l : List α
def Sl.val {α : Type} (s : Sl α) : Value := .slice s.p s.l.length s.c
structure SlOk (W : World) {α : Type} (f : α → List Value) (bytes : Nat) (s : Sl α) : Prop where
 row : Row W s.p (s.l.flatMap f)
 len : s.l.length ≤ s.c
 cap : s.l.length * bytes ≤ 140737488351232
 nil : s.p = none → s.c = 0
theorem SlOk.below {W w : World} {α : Type} {f : α → List Value} {bytes : Nat} {s : Sl α} (h : SlOk W f bytes s) (hb : Below W.heap.size W w) : SlOk w f bytes s := ⟨h.row.below hb, h.len, h.cap, h.nil⟩
structure Vv where
 add : Int
 plus : ByteArray
 minus : ByteArray
 deriving DecidableEq
def Vv.cells (x : Vv) : List Value := [.int .i64 x.add, .string x.plus, .string x.minus]
structure Vv.ok (x : Vv) : Prop where
 add : inI64 x.add
 plus : x.plus.size ≤ 140737488351232
 minus : x.minus.size ≤ 140737488351232
structure Rg where
 n : Int
 x : Bool
 sp : Bool
 deriving DecidableEq
def Rg.cells (x : Rg) : List Value := [.int .i64 x.n, .bool x.x, .bool x.sp]
structure Rg.ok (x : Rg) : Prop where
 n : inI64 x.n
structure Oc where
 kind : Int
 r : Rg
 m : Rg
 «mod» : Int
 amt : Int
 n : Int
 v : Vv
 lo : Bool
 mode : Int
 deriving DecidableEq
def Oc.cells (x : Oc) : List Value := [.int .i64 x.kind, .int .i64 x.r.n, .bool x.r.x, .bool x.r.sp, .int .i64 x.m.n, .bool x.m.x, .bool x.m.sp, .int .i64 x.mod, .int .i64 x.amt, .int .i64 x.n, .int .i64 x.v.add, .string x.v.plus, .string x.v.minus, .bool x.lo, .int .i64 x.mode]
structure Oc.ok (x : Oc) : Prop where
 kind : inI64 x.kind
 r : x.r.ok
 m : x.m.ok
 «mod» : inI64 x.mod
 amt : inI64 x.amt
 n : inI64 x.n
 v : x.v.ok
 mode : inI64 x.mode
structure LnR where
 name : ByteArray
 opers : Sl Oc
def LnR.cells (x : LnR) : List Value := [.string x.name, x.opers.val]
structure LnR.ok (W : World) (x : LnR) : Prop where
 name : x.name.size ≤ 140737488351232
 opers : SlOk W Oc.cells 120 x.opers ∧ ∀ y ∈ x.opers.l, y.ok
theorem LnR.ok.below {W w : World} {x : LnR} (h : x.ok W) (hb : Below W.heap.size W w) : x.ok w := ⟨h.name, ⟨h.opers.1.below hb, h.opers.2⟩⟩
structure StR where
 labels : Sl ByteArray
 kind : Int
 l : LnR
 names : Sl ByteArray
 size : Int
 values : Sl Vv
 bytes : Sl Int
def StR.cells (x : StR) : List Value := [x.labels.val, .int .i64 x.kind, .string x.l.name, x.l.opers.val, x.names.val, .int .i64 x.size, x.values.val, x.bytes.val]
structure StR.ok (W : World) (x : StR) : Prop where
 labels : SlOk W (fun s : ByteArray => [Value.string s]) 16 x.labels ∧ ∀ s ∈ x.labels.l, s.size ≤ 140737488351232
 kind : inI64 x.kind
 l : x.l.ok W
 names : SlOk W (fun s : ByteArray => [Value.string s]) 16 x.names ∧ ∀ s ∈ x.names.l, s.size ≤ 140737488351232
 size : inI64 x.size
 values : SlOk W Vv.cells 40 x.values ∧ ∀ y ∈ x.values.l, y.ok
 bytes : SlOk W (fun n : Int => [Value.int .u8 n]) 1 x.bytes ∧ ∀ n ∈ x.bytes.l, 0 ≤ n ∧ n ≤ 255
theorem StR.ok.below {W w : World} {x : StR} (h : x.ok W) (hb : Below W.heap.size W w) : x.ok w := ⟨⟨h.labels.1.below hb, h.labels.2⟩, h.kind, h.l.below hb, ⟨h.names.1.below hb, h.names.2⟩, h.size, ⟨h.values.1.below hb, h.values.2⟩, ⟨h.bytes.1.below hb, h.bytes.2⟩⟩
structure RwR where
 line : Int
 s : StR
def RwR.cells (x : RwR) : List Value := [.int .i64 x.line, x.s.labels.val, .int .i64 x.s.kind, .string x.s.l.name, x.s.l.opers.val, x.s.names.val, .int .i64 x.s.size, x.s.values.val, x.s.bytes.val]
structure PcR where
 kind : Int
 file : Int
 line : Int
 l : LnR
 v : Vv
 size : Int
 b : Sl Int
 align : Int
def PcR.cells (x : PcR) : List Value := [.int .i64 x.kind, .int .i64 x.file, .int .i64 x.line, .string x.l.name, x.l.opers.val, .int .i64 x.v.add, .string x.v.plus, .string x.v.minus, .int .i64 x.size, x.b.val, .int .i64 x.align]
structure PcR.ok (W : World) (x : PcR) : Prop where
 kind : inI64 x.kind
 file : inI64 x.file
 line : inI64 x.line
 l : x.l.ok W
 v : x.v.ok
 size : inI64 x.size
 b : SlOk W (fun n : Int => [Value.int .u8 n]) 1 x.b ∧ ∀ n ∈ x.b.l, 0 ≤ n ∧ n ≤ 255
 align : inI64 x.align
theorem PcR.ok.below {W w : World} {x : PcR} (h : x.ok W) (hb : Below W.heap.size W w) : x.ok w := ⟨h.kind, h.file, h.line, h.l.below hb, h.v, h.size, ⟨h.b.1.below hb, h.b.2⟩, h.align⟩
structure PtR where
 name : ByteArray
 file : Int
 line : Int
 pieces : Sl PcR
def PtR.cells (x : PtR) : List Value := [.string x.name, .int .i64 x.file, .int .i64 x.line, x.pieces.val]
structure PtR.ok (W : World) (x : PtR) : Prop where
 name : x.name.size ≤ 140737488351232
 file : inI64 x.file
 line : inI64 x.line
 pieces : SlOk W PcR.cells 144 x.pieces ∧ ∀ y ∈ x.pieces.l, y.ok W
theorem PtR.ok.below {W w : World} {x : PtR} (h : x.ok W) (hb : Below W.heap.size W w) : x.ok w := ⟨h.name, h.file, h.line, ⟨h.pieces.1.below hb, fun y hy => (h.pieces.2 y hy).below hb⟩⟩
structure Mk where
 name : ByteArray
 file : Int
 line : Int
 part : Int
 piece : Int
 equ : Bool
 v : Vv
 deriving DecidableEq
def Mk.cells (x : Mk) : List Value := [.string x.name, .int .i64 x.file, .int .i64 x.line, .int .i64 x.part, .int .i64 x.piece, .bool x.equ, .int .i64 x.v.add, .string x.v.plus, .string x.v.minus]
structure Mk.ok (x : Mk) : Prop where
 name : x.name.size ≤ 140737488351232
 file : inI64 x.file
 line : inI64 x.line
 part : inI64 x.part
 piece : inI64 x.piece
 v : x.v.ok
structure Td where
 name : ByteArray
 file : Int
 line : Int
 deriving DecidableEq
def Td.cells (x : Td) : List Value := [.string x.name, .int .i64 x.file, .int .i64 x.line]
structure Td.ok (x : Td) : Prop where
 name : x.name.size ≤ 140737488351232
 file : inI64 x.file
 line : inI64 x.line
structure UnR where
 parts : Sl PtR
 marks : Sl Mk
 globals : Sl Td
def UnR.cells (x : UnR) : List Value := [x.parts.val, x.marks.val, x.globals.val]
structure UnR.ok (W : World) (x : UnR) : Prop where
 parts : SlOk W PtR.cells 56 x.parts ∧ ∀ y ∈ x.parts.l, y.ok W
 marks : SlOk W Mk.cells 96 x.marks ∧ ∀ y ∈ x.marks.l, y.ok
 globals : SlOk W Td.cells 32 x.globals ∧ ∀ y ∈ x.globals.l, y.ok
theorem UnR.ok.below {W w : World} {x : UnR} (h : x.ok W) (hb : Below W.heap.size W w) : x.ok w := ⟨⟨h.parts.1.below hb, fun y hy => (h.parts.2 y hy).below hb⟩, ⟨h.marks.1.below hb, h.marks.2⟩, ⟨h.globals.1.below hb, h.globals.2⟩⟩
end Go.Proofs.Ythlingholhjcnaa
namespace Go.Proofs.Ythlingholhjcnaa
open Go.RowKit Go.ChangeShapes Go.WideShapes Go.ChangeAt
section
variable {H : Type} {enc : TypeId × Value → H} {W : World}
theorem fieldk {ty : TypeId} {off m : Nat} {cs l : List Value} (hc : Try.prog.cellsOf ty = m) (e : List.take (Try.prog.cellsOf ty) (List.drop off cs) = l) : (cs.drop off).take m = l := by rw [← hc]; exact e
theorem wf_i64 {n : Int} (h : (Lit.int .i64 n).wf = true) : inI64 n := by
 simp [Lit.wf, IntKind.min, IntKind.max, IntKind.bits, IntKind.signed] at h
 simp only [inI64]
 omega
theorem wf_u8 {n : Int} (h : (Lit.int .u8 n).wf = true) : 0 ≤ n ∧ n ≤ 255 := by
 simp [Lit.wf, IntKind.min, IntKind.max, IntKind.bits, IntKind.signed] at h
 omega
theorem opens_str {P : Program} {t : TypeId} (ht : P.underlying t = some .string) : OpensAs enc P W t (fun s : ByteArray => [Value.string s]) (fun s => s.size ≤ 140737488351232) := fun n cs y h hlt => by
 obtain ⟨s, e, hy, _⟩ := DataW.trod_string ht h
 refine ⟨s, e, ?_⟩
 have := hlt s.data.toList.length (by rw [hy]; simp [DataW.weights])
 exact this
theorem opens_sl {P : Program} {α : Type} {f : α → List Value} {ok : α → Prop} {t e : TypeId} {k bytes : Nat} (ht : P.underlying t = some (.slice e)) (hc : P.cellsOf e = k) (hb : P.bytesOf e = bytes) (hk0 : 0 < k) (hk : ∀ x, (f x).length = k) (hel : OpensAs enc P W e f ok) :
  OpensAs enc P W t (fun s : Sl α => [s.val]) (fun s => SlOk W f bytes s ∧ ∀ y ∈ s.l, ok y) := fun n cs y h hlt => by
 obtain ⟨⟨p, c, l⟩, e, h1, h2, h3, h4, h5, h6⟩ := opens_slice ht hc hk0 hk hel n cs y h hlt
 exact ⟨⟨p, c, l⟩, e, ⟨h4, h1, by rw [← hb]; exact Nat.le_trans (Nat.mul_le_mul_right _ h1) h6, h3⟩, h5⟩
theorem map_flat {α : Type} (f : α → Value) : ∀ l : List α, l.map f = l.flatMap (fun x => [f x])
 | [] => rfl
 | a :: l => by rw [List.map_cons, List.flatMap_cons, map_flat f l]; rfl
theorem opens_bytes : OpensAs enc Try.prog W 55 (fun s : Sl Int => [s.val]) (fun s => SlOk W (fun n : Int => [Value.int .u8 n]) 1 s ∧ ∀ y ∈ s.l, 0 ≤ y ∧ y ≤ 255) := fun n cs y h hlt => by
 obtain ⟨⟨p, c, l⟩, e, h1, h2, h3, h4, h5, h6⟩ := opens_intSlice Try.underlying55 Try.underlying5 (by kernel_rfl) 1 (by kernel_rfl) n cs y h hlt
 refine ⟨⟨p, c, l⟩, e, ⟨?_, h1, by dsimp only at h1 h6 ⊢; omega, h3⟩, fun y hy => wf_u8 (h5 y hy)⟩
 rw [← map_flat]; exact h4
set_option maxRecDepth 20000 in
theorem opens_Vv : OpensAs enc Try.prog W 62 Vv.cells Vv.ok := fun n cs y h hlt => by
 obtain ⟨xs, k, rfl, rfl, hlen, hxl, hf⟩ := DataW.trod_struct Try.underlying62 h
 have hlen : cs.length = 3 := hlen.trans (by kernel_rfl)
 have hxl : xs.length = 3 := hxl
 have c0 : Try.prog.cellsOf 2 = 1 := by kernel_rfl
 obtain ⟨n0, e0, w0⟩ := (opens_int Try.underlying2) _ _ _ ((hf 0 _ rfl).trans (List.getElem?_eq_getElem (by omega))) (light_field Try.underlying62 hlt (j := 0) rfl (List.getElem?_eq_getElem (by omega)))
 have e0 := fieldk (off := 0) c0 e0
 have c1 : Try.prog.cellsOf 9 = 1 := by kernel_rfl
 obtain ⟨n1, e1, w1⟩ := (opens_str Try.underlying9) _ _ _ ((hf 1 _ rfl).trans (List.getElem?_eq_getElem (by omega))) (light_field Try.underlying62 hlt (j := 1) rfl (List.getElem?_eq_getElem (by omega)))
 have e1 := fieldk (off := 1) c1 e1
 have c2 : Try.prog.cellsOf 9 = 1 := by kernel_rfl
 obtain ⟨n2, e2, w2⟩ := (opens_str Try.underlying9) _ _ _ ((hf 2 _ rfl).trans (List.getElem?_eq_getElem (by omega))) (light_field Try.underlying62 hlt (j := 2) rfl (List.getElem?_eq_getElem (by omega)))
 have e2 := fieldk (off := 2) c2 e2
 match cs, hlen with
 | [v0, v1, v2], _ =>
  simp at e0 e1 e2
  subst e0
  subst e1
  subst e2
  exact ⟨⟨n0, n1, n2⟩, rfl, ⟨wf_i64 w0, w1, w2⟩⟩
set_option maxRecDepth 20000 in
theorem opens_Rg : OpensAs enc Try.prog W 70 Rg.cells Rg.ok := fun n cs y h hlt => by
 obtain ⟨xs, k, rfl, rfl, hlen, hxl, hf⟩ := DataW.trod_struct Try.underlying70 h
 have hlen : cs.length = 3 := hlen.trans (by kernel_rfl)
 have hxl : xs.length = 3 := hxl
 have c0 : Try.prog.cellsOf 3 = 1 := by kernel_rfl
 obtain ⟨n0, e0, w0⟩ := (opens_int Try.underlying3) _ _ _ ((hf 0 _ rfl).trans (List.getElem?_eq_getElem (by omega))) (light_field Try.underlying70 hlt (j := 0) rfl (List.getElem?_eq_getElem (by omega)))
 have e0 := fieldk (off := 0) c0 e0
 have c1 : Try.prog.cellsOf 4 = 1 := by kernel_rfl
 obtain ⟨n1, e1, w1⟩ := (opens_bool Try.underlying4) _ _ _ ((hf 1 _ rfl).trans (List.getElem?_eq_getElem (by omega))) (light_field Try.underlying70 hlt (j := 1) rfl (List.getElem?_eq_getElem (by omega)))
 have e1 := fieldk (off := 1) c1 e1
 have c2 : Try.prog.cellsOf 4 = 1 := by kernel_rfl
 obtain ⟨n2, e2, w2⟩ := (opens_bool Try.underlying4) _ _ _ ((hf 2 _ rfl).trans (List.getElem?_eq_getElem (by omega))) (light_field Try.underlying70 hlt (j := 2) rfl (List.getElem?_eq_getElem (by omega)))
 have e2 := fieldk (off := 2) c2 e2
 match cs, hlen with
 | [v0, v1, v2], _ =>
  simp at e0 e1 e2
  subst e0
  subst e1
  subst e2
  exact ⟨⟨n0, n1, n2⟩, rfl, ⟨wf_i64 w0⟩⟩
set_option maxRecDepth 20000 in
theorem opens_Oc : OpensAs enc Try.prog W 72 Oc.cells Oc.ok := fun n cs y h hlt => by
 obtain ⟨xs, k, rfl, rfl, hlen, hxl, hf⟩ := DataW.trod_struct Try.underlying72 h
 have hlen : cs.length = 15 := hlen.trans (by kernel_rfl)
 have hxl : xs.length = 9 := hxl
 have c0 : Try.prog.cellsOf 3 = 1 := by kernel_rfl
 obtain ⟨n0, e0, w0⟩ := (opens_int Try.underlying3) _ _ _ ((hf 0 _ rfl).trans (List.getElem?_eq_getElem (by omega))) (light_field Try.underlying72 hlt (j := 0) rfl (List.getElem?_eq_getElem (by omega)))
 have e0 := fieldk (off := 0) c0 e0
 have c1 : Try.prog.cellsOf 70 = 3 := by kernel_rfl
 obtain ⟨n1, e1, w1⟩ := opens_Rg _ _ _ ((hf 1 _ rfl).trans (List.getElem?_eq_getElem (by omega))) (light_field Try.underlying72 hlt (j := 1) rfl (List.getElem?_eq_getElem (by omega)))
 have e1 := fieldk (off := 1) c1 e1
 have c2 : Try.prog.cellsOf 70 = 3 := by kernel_rfl
 obtain ⟨n2, e2, w2⟩ := opens_Rg _ _ _ ((hf 2 _ rfl).trans (List.getElem?_eq_getElem (by omega))) (light_field Try.underlying72 hlt (j := 2) rfl (List.getElem?_eq_getElem (by omega)))
 have e2 := fieldk (off := 4) c2 e2
 have c3 : Try.prog.cellsOf 3 = 1 := by kernel_rfl
 obtain ⟨n3, e3, w3⟩ := (opens_int Try.underlying3) _ _ _ ((hf 3 _ rfl).trans (List.getElem?_eq_getElem (by omega))) (light_field Try.underlying72 hlt (j := 3) rfl (List.getElem?_eq_getElem (by omega)))
 have e3 := fieldk (off := 7) c3 e3
 have c4 : Try.prog.cellsOf 3 = 1 := by kernel_rfl
 obtain ⟨n4, e4, w4⟩ := (opens_int Try.underlying3) _ _ _ ((hf 4 _ rfl).trans (List.getElem?_eq_getElem (by omega))) (light_field Try.underlying72 hlt (j := 4) rfl (List.getElem?_eq_getElem (by omega)))
 have e4 := fieldk (off := 8) c4 e4
 have c5 : Try.prog.cellsOf 2 = 1 := by kernel_rfl
 obtain ⟨n5, e5, w5⟩ := (opens_int Try.underlying2) _ _ _ ((hf 5 _ rfl).trans (List.getElem?_eq_getElem (by omega))) (light_field Try.underlying72 hlt (j := 5) rfl (List.getElem?_eq_getElem (by omega)))
 have e5 := fieldk (off := 9) c5 e5
 have c6 : Try.prog.cellsOf 62 = 3 := by kernel_rfl
 obtain ⟨n6, e6, w6⟩ := opens_Vv _ _ _ ((hf 6 _ rfl).trans (List.getElem?_eq_getElem (by omega))) (light_field Try.underlying72 hlt (j := 6) rfl (List.getElem?_eq_getElem (by omega)))
 have e6 := fieldk (off := 10) c6 e6
 have c7 : Try.prog.cellsOf 4 = 1 := by kernel_rfl
 obtain ⟨n7, e7, w7⟩ := (opens_bool Try.underlying4) _ _ _ ((hf 7 _ rfl).trans (List.getElem?_eq_getElem (by omega))) (light_field Try.underlying72 hlt (j := 7) rfl (List.getElem?_eq_getElem (by omega)))
 have e7 := fieldk (off := 13) c7 e7
 have c8 : Try.prog.cellsOf 3 = 1 := by kernel_rfl
 obtain ⟨n8, e8, w8⟩ := (opens_int Try.underlying3) _ _ _ ((hf 8 _ rfl).trans (List.getElem?_eq_getElem (by omega))) (light_field Try.underlying72 hlt (j := 8) rfl (List.getElem?_eq_getElem (by omega)))
 have e8 := fieldk (off := 14) c8 e8
 match cs, hlen with
 | [v0, v1, v2, v3, v4, v5, v6, v7, v8, v9, v10, v11, v12, v13, v14], _ =>
  simp [Rg.cells, Vv.cells] at e0 e1 e2 e3 e4 e5 e6 e7 e8
  subst e0
  obtain ⟨rfl, rfl, rfl⟩ := e1
  obtain ⟨rfl, rfl, rfl⟩ := e2
  subst e3
  subst e4
  subst e5
  obtain ⟨rfl, rfl, rfl⟩ := e6
  subst e7
  subst e8
  exact ⟨⟨n0, n1, n2, n3, n4, n5, n6, n7, n8⟩, rfl, ⟨wf_i64 w0, w1, w2, wf_i64 w3, wf_i64 w4, wf_i64 w5, w6, wf_i64 w8⟩⟩
set_option maxRecDepth 20000 in
theorem opens_LnR : OpensAs enc Try.prog W 25 LnR.cells (LnR.ok W) := fun n cs y h hlt => by
 obtain ⟨xs, k, rfl, rfl, hlen, hxl, hf⟩ := DataW.trod_struct Try.underlying25 h
 have hlen : cs.length = 2 := hlen.trans (by kernel_rfl)
 have hxl : xs.length = 2 := hxl
 have c0 : Try.prog.cellsOf 9 = 1 := by kernel_rfl
 obtain ⟨n0, e0, w0⟩ := (opens_str Try.underlying9) _ _ _ ((hf 0 _ rfl).trans (List.getElem?_eq_getElem (by omega))) (light_field Try.underlying25 hlt (j := 0) rfl (List.getElem?_eq_getElem (by omega)))
 have e0 := fieldk (off := 0) c0 e0
 have c1 : Try.prog.cellsOf 23 = 1 := by kernel_rfl
 obtain ⟨n1, e1, w1⟩ := (opens_sl (k := 15) (bytes := 120) Try.underlying23 (by kernel_rfl) (by kernel_rfl) (by decide) (fun _ => rfl) opens_Oc) _ _ _ ((hf 1 _ rfl).trans (List.getElem?_eq_getElem (by omega))) (light_field Try.underlying25 hlt (j := 1) rfl (List.getElem?_eq_getElem (by omega)))
 have e1 := fieldk (off := 1) c1 e1
 match cs, hlen with
 | [v0, v1], _ =>
  simp at e0 e1
  subst e0
  subst e1
  exact ⟨⟨n0, n1⟩, rfl, ⟨w0, w1⟩⟩
set_option maxRecDepth 20000 in
theorem opens_PcR : OpensAs enc Try.prog W 64 PcR.cells (PcR.ok W) := fun n cs y h hlt => by
 obtain ⟨xs, k, rfl, rfl, hlen, hxl, hf⟩ := DataW.trod_struct Try.underlying64 h
 have hlen : cs.length = 11 := hlen.trans (by kernel_rfl)
 have hxl : xs.length = 8 := hxl
 have c0 : Try.prog.cellsOf 3 = 1 := by kernel_rfl
 obtain ⟨n0, e0, w0⟩ := (opens_int Try.underlying3) _ _ _ ((hf 0 _ rfl).trans (List.getElem?_eq_getElem (by omega))) (light_field Try.underlying64 hlt (j := 0) rfl (List.getElem?_eq_getElem (by omega)))
 have e0 := fieldk (off := 0) c0 e0
 have c1 : Try.prog.cellsOf 3 = 1 := by kernel_rfl
 obtain ⟨n1, e1, w1⟩ := (opens_int Try.underlying3) _ _ _ ((hf 1 _ rfl).trans (List.getElem?_eq_getElem (by omega))) (light_field Try.underlying64 hlt (j := 1) rfl (List.getElem?_eq_getElem (by omega)))
 have e1 := fieldk (off := 1) c1 e1
 have c2 : Try.prog.cellsOf 3 = 1 := by kernel_rfl
 obtain ⟨n2, e2, w2⟩ := (opens_int Try.underlying3) _ _ _ ((hf 2 _ rfl).trans (List.getElem?_eq_getElem (by omega))) (light_field Try.underlying64 hlt (j := 2) rfl (List.getElem?_eq_getElem (by omega)))
 have e2 := fieldk (off := 2) c2 e2
 have c3 : Try.prog.cellsOf 25 = 2 := by kernel_rfl
 obtain ⟨n3, e3, w3⟩ := opens_LnR _ _ _ ((hf 3 _ rfl).trans (List.getElem?_eq_getElem (by omega))) (light_field Try.underlying64 hlt (j := 3) rfl (List.getElem?_eq_getElem (by omega)))
 have e3 := fieldk (off := 3) c3 e3
 have c4 : Try.prog.cellsOf 62 = 3 := by kernel_rfl
 obtain ⟨n4, e4, w4⟩ := opens_Vv _ _ _ ((hf 4 _ rfl).trans (List.getElem?_eq_getElem (by omega))) (light_field Try.underlying64 hlt (j := 4) rfl (List.getElem?_eq_getElem (by omega)))
 have e4 := fieldk (off := 5) c4 e4
 have c5 : Try.prog.cellsOf 3 = 1 := by kernel_rfl
 obtain ⟨n5, e5, w5⟩ := (opens_int Try.underlying3) _ _ _ ((hf 5 _ rfl).trans (List.getElem?_eq_getElem (by omega))) (light_field Try.underlying64 hlt (j := 5) rfl (List.getElem?_eq_getElem (by omega)))
 have e5 := fieldk (off := 8) c5 e5
 have c6 : Try.prog.cellsOf 55 = 1 := by kernel_rfl
 obtain ⟨n6, e6, w6⟩ := opens_bytes _ _ _ ((hf 6 _ rfl).trans (List.getElem?_eq_getElem (by omega))) (light_field Try.underlying64 hlt (j := 6) rfl (List.getElem?_eq_getElem (by omega)))
 have e6 := fieldk (off := 9) c6 e6
 have c7 : Try.prog.cellsOf 3 = 1 := by kernel_rfl
 obtain ⟨n7, e7, w7⟩ := (opens_int Try.underlying3) _ _ _ ((hf 7 _ rfl).trans (List.getElem?_eq_getElem (by omega))) (light_field Try.underlying64 hlt (j := 7) rfl (List.getElem?_eq_getElem (by omega)))
 have e7 := fieldk (off := 10) c7 e7
 match cs, hlen with
 | [v0, v1, v2, v3, v4, v5, v6, v7, v8, v9, v10], _ =>
  simp [LnR.cells, Vv.cells] at e0 e1 e2 e3 e4 e5 e6 e7
  subst e0
  subst e1
  subst e2
  obtain ⟨rfl, rfl⟩ := e3
  obtain ⟨rfl, rfl, rfl⟩ := e4
  subst e5
  subst e6
  subst e7
  exact ⟨⟨n0, n1, n2, n3, n4, n5, n6, n7⟩, rfl, ⟨wf_i64 w0, wf_i64 w1, wf_i64 w2, w3, w4, wf_i64 w5, w6, wf_i64 w7⟩⟩
set_option maxRecDepth 20000 in
theorem opens_PtR : OpensAs enc Try.prog W 50 PtR.cells (PtR.ok W) := fun n cs y h hlt => by
 obtain ⟨xs, k, rfl, rfl, hlen, hxl, hf⟩ := DataW.trod_struct Try.underlying50 h
 have hlen : cs.length = 4 := hlen.trans (by kernel_rfl)
 have hxl : xs.length = 4 := hxl
 have c0 : Try.prog.cellsOf 9 = 1 := by kernel_rfl
 obtain ⟨n0, e0, w0⟩ := (opens_str Try.underlying9) _ _ _ ((hf 0 _ rfl).trans (List.getElem?_eq_getElem (by omega))) (light_field Try.underlying50 hlt (j := 0) rfl (List.getElem?_eq_getElem (by omega)))
 have e0 := fieldk (off := 0) c0 e0
 have c1 : Try.prog.cellsOf 3 = 1 := by kernel_rfl
 obtain ⟨n1, e1, w1⟩ := (opens_int Try.underlying3) _ _ _ ((hf 1 _ rfl).trans (List.getElem?_eq_getElem (by omega))) (light_field Try.underlying50 hlt (j := 1) rfl (List.getElem?_eq_getElem (by omega)))
 have e1 := fieldk (off := 1) c1 e1
 have c2 : Try.prog.cellsOf 3 = 1 := by kernel_rfl
 obtain ⟨n2, e2, w2⟩ := (opens_int Try.underlying3) _ _ _ ((hf 2 _ rfl).trans (List.getElem?_eq_getElem (by omega))) (light_field Try.underlying50 hlt (j := 2) rfl (List.getElem?_eq_getElem (by omega)))
 have e2 := fieldk (off := 2) c2 e2
 have c3 : Try.prog.cellsOf 48 = 1 := by kernel_rfl
 obtain ⟨n3, e3, w3⟩ := (opens_sl (k := 11) (bytes := 144) Try.underlying48 (by kernel_rfl) (by kernel_rfl) (by decide) (fun _ => rfl) opens_PcR) _ _ _ ((hf 3 _ rfl).trans (List.getElem?_eq_getElem (by omega))) (light_field Try.underlying50 hlt (j := 3) rfl (List.getElem?_eq_getElem (by omega)))
 have e3 := fieldk (off := 3) c3 e3
 match cs, hlen with
 | [v0, v1, v2, v3], _ =>
  simp at e0 e1 e2 e3
  subst e0
  subst e1
  subst e2
  subst e3
  exact ⟨⟨n0, n1, n2, n3⟩, rfl, ⟨w0, wf_i64 w1, wf_i64 w2, w3⟩⟩
set_option maxRecDepth 20000 in
theorem opens_Mk : OpensAs enc Try.prog W 81 Mk.cells Mk.ok := fun n cs y h hlt => by
 obtain ⟨xs, k, rfl, rfl, hlen, hxl, hf⟩ := DataW.trod_struct Try.underlying81 h
 have hlen : cs.length = 9 := hlen.trans (by kernel_rfl)
 have hxl : xs.length = 7 := hxl
 have c0 : Try.prog.cellsOf 9 = 1 := by kernel_rfl
 obtain ⟨n0, e0, w0⟩ := (opens_str Try.underlying9) _ _ _ ((hf 0 _ rfl).trans (List.getElem?_eq_getElem (by omega))) (light_field Try.underlying81 hlt (j := 0) rfl (List.getElem?_eq_getElem (by omega)))
 have e0 := fieldk (off := 0) c0 e0
 have c1 : Try.prog.cellsOf 3 = 1 := by kernel_rfl
 obtain ⟨n1, e1, w1⟩ := (opens_int Try.underlying3) _ _ _ ((hf 1 _ rfl).trans (List.getElem?_eq_getElem (by omega))) (light_field Try.underlying81 hlt (j := 1) rfl (List.getElem?_eq_getElem (by omega)))
 have e1 := fieldk (off := 1) c1 e1
 have c2 : Try.prog.cellsOf 3 = 1 := by kernel_rfl
 obtain ⟨n2, e2, w2⟩ := (opens_int Try.underlying3) _ _ _ ((hf 2 _ rfl).trans (List.getElem?_eq_getElem (by omega))) (light_field Try.underlying81 hlt (j := 2) rfl (List.getElem?_eq_getElem (by omega)))
 have e2 := fieldk (off := 2) c2 e2
 have c3 : Try.prog.cellsOf 3 = 1 := by kernel_rfl
 obtain ⟨n3, e3, w3⟩ := (opens_int Try.underlying3) _ _ _ ((hf 3 _ rfl).trans (List.getElem?_eq_getElem (by omega))) (light_field Try.underlying81 hlt (j := 3) rfl (List.getElem?_eq_getElem (by omega)))
 have e3 := fieldk (off := 3) c3 e3
 have c4 : Try.prog.cellsOf 3 = 1 := by kernel_rfl
 obtain ⟨n4, e4, w4⟩ := (opens_int Try.underlying3) _ _ _ ((hf 4 _ rfl).trans (List.getElem?_eq_getElem (by omega))) (light_field Try.underlying81 hlt (j := 4) rfl (List.getElem?_eq_getElem (by omega)))
 have e4 := fieldk (off := 4) c4 e4
 have c5 : Try.prog.cellsOf 4 = 1 := by kernel_rfl
 obtain ⟨n5, e5, w5⟩ := (opens_bool Try.underlying4) _ _ _ ((hf 5 _ rfl).trans (List.getElem?_eq_getElem (by omega))) (light_field Try.underlying81 hlt (j := 5) rfl (List.getElem?_eq_getElem (by omega)))
 have e5 := fieldk (off := 5) c5 e5
 have c6 : Try.prog.cellsOf 62 = 3 := by kernel_rfl
 obtain ⟨n6, e6, w6⟩ := opens_Vv _ _ _ ((hf 6 _ rfl).trans (List.getElem?_eq_getElem (by omega))) (light_field Try.underlying81 hlt (j := 6) rfl (List.getElem?_eq_getElem (by omega)))
 have e6 := fieldk (off := 6) c6 e6
 match cs, hlen with
 | [v0, v1, v2, v3, v4, v5, v6, v7, v8], _ =>
  simp [Vv.cells] at e0 e1 e2 e3 e4 e5 e6
  subst e0
  subst e1
  subst e2
  subst e3
  subst e4
  subst e5
  obtain ⟨rfl, rfl, rfl⟩ := e6
  exact ⟨⟨n0, n1, n2, n3, n4, n5, n6⟩, rfl, ⟨w0, wf_i64 w1, wf_i64 w2, wf_i64 w3, wf_i64 w4, w6⟩⟩
set_option maxRecDepth 20000 in
theorem opens_Td : OpensAs enc Try.prog W 90 Td.cells Td.ok := fun n cs y h hlt => by
 obtain ⟨xs, k, rfl, rfl, hlen, hxl, hf⟩ := DataW.trod_struct Try.underlying90 h
 have hlen : cs.length = 3 := hlen.trans (by kernel_rfl)
 have hxl : xs.length = 3 := hxl
 have c0 : Try.prog.cellsOf 9 = 1 := by kernel_rfl
 obtain ⟨n0, e0, w0⟩ := (opens_str Try.underlying9) _ _ _ ((hf 0 _ rfl).trans (List.getElem?_eq_getElem (by omega))) (light_field Try.underlying90 hlt (j := 0) rfl (List.getElem?_eq_getElem (by omega)))
 have e0 := fieldk (off := 0) c0 e0
 have c1 : Try.prog.cellsOf 3 = 1 := by kernel_rfl
 obtain ⟨n1, e1, w1⟩ := (opens_int Try.underlying3) _ _ _ ((hf 1 _ rfl).trans (List.getElem?_eq_getElem (by omega))) (light_field Try.underlying90 hlt (j := 1) rfl (List.getElem?_eq_getElem (by omega)))
 have e1 := fieldk (off := 1) c1 e1
 have c2 : Try.prog.cellsOf 3 = 1 := by kernel_rfl
 obtain ⟨n2, e2, w2⟩ := (opens_int Try.underlying3) _ _ _ ((hf 2 _ rfl).trans (List.getElem?_eq_getElem (by omega))) (light_field Try.underlying90 hlt (j := 2) rfl (List.getElem?_eq_getElem (by omega)))
 have e2 := fieldk (off := 2) c2 e2
 match cs, hlen with
 | [v0, v1, v2], _ =>
  simp at e0 e1 e2
  subst e0
  subst e1
  subst e2
  exact ⟨⟨n0, n1, n2⟩, rfl, ⟨w0, wf_i64 w1, wf_i64 w2⟩⟩
set_option maxRecDepth 20000 in
theorem opens_UnR : OpensAs enc Try.prog W 32 UnR.cells (UnR.ok W) := fun n cs y h hlt => by
 obtain ⟨xs, k, rfl, rfl, hlen, hxl, hf⟩ := DataW.trod_struct Try.underlying32 h
 have hlen : cs.length = 3 := hlen.trans (by kernel_rfl)
 have hxl : xs.length = 3 := hxl
 have c0 : Try.prog.cellsOf 28 = 1 := by kernel_rfl
 obtain ⟨n0, e0, w0⟩ := (opens_sl (k := 4) (bytes := 56) Try.underlying28 (by kernel_rfl) (by kernel_rfl) (by decide) (fun _ => rfl) opens_PtR) _ _ _ ((hf 0 _ rfl).trans (List.getElem?_eq_getElem (by omega))) (light_field Try.underlying32 hlt (j := 0) rfl (List.getElem?_eq_getElem (by omega)))
 have e0 := fieldk (off := 0) c0 e0
 have c1 : Try.prog.cellsOf 29 = 1 := by kernel_rfl
 obtain ⟨n1, e1, w1⟩ := (opens_sl (k := 9) (bytes := 96) Try.underlying29 (by kernel_rfl) (by kernel_rfl) (by decide) (fun _ => rfl) opens_Mk) _ _ _ ((hf 1 _ rfl).trans (List.getElem?_eq_getElem (by omega))) (light_field Try.underlying32 hlt (j := 1) rfl (List.getElem?_eq_getElem (by omega)))
 have e1 := fieldk (off := 1) c1 e1
 have c2 : Try.prog.cellsOf 30 = 1 := by kernel_rfl
 obtain ⟨n2, e2, w2⟩ := (opens_sl (k := 3) (bytes := 32) Try.underlying30 (by kernel_rfl) (by kernel_rfl) (by decide) (fun _ => rfl) opens_Td) _ _ _ ((hf 2 _ rfl).trans (List.getElem?_eq_getElem (by omega))) (light_field Try.underlying32 hlt (j := 2) rfl (List.getElem?_eq_getElem (by omega)))
 have e2 := fieldk (off := 2) c2 e2
 match cs, hlen with
 | [v0, v1, v2], _ =>
  simp at e0 e1 e2
  subst e0
  subst e1
  subst e2
  exact ⟨⟨n0, n1, n2⟩, rfl, ⟨w0, w1, w2⟩⟩
end
end Go.Proofs.Ythlingholhjcnaa
namespace Go.Proofs.Ythlingholhjcnaa
open Go.RowKit
theorem own_below {w w' : World} {base : Nat} {e : TypeId} {size : Nat} {v : Value} {n : Nat} {xs : List Value} (h : w.ownsRow base e size v n xs) (hb : Below w.heap.size w w') : w'.ownsRow base e size v n xs := by
 refine ⟨h.1, ?_⟩
 rcases h.2 with hn | ⟨g, cap, cur, hv, hge, hg, rest⟩
 ·exact .inl hn
 ·exact .inr ⟨g, cap, cur, hv, hge, (hb.block g (Array.getElem?_eq_some_iff.1 hg).1).trans hg, rest⟩
theorem own_cell {w : World} {base : Nat} {e : TypeId} {size g n c : Nat} {xs : List Value} (h : w.ownsRow base e size (.slice (some ⟨g, 0, none⟩) n c) n xs) (i : Nat) (hi : i < xs.length) :
  w.cell? ⟨g, i, none⟩ = some xs[i] ∧ w.frozen? ⟨g, i, none⟩ = false := by
 refine ⟨?_, ?_⟩
 ·have := h.cells (g := g) rfl i xs[i] (by simp [hi])
  rwa [addr_add, Nat.zero_add] at this
 ·rcases h.2 with ⟨h0, _⟩ | ⟨g', cap', cur, hv, hg, hh, _⟩
  ·cases h0
  ·cases hv; exact frozen_of_row _ _ _ _ _ hh
theorem list_take_set {α : Type} (l : List α) (n i : Nat) (x : α) : (l.set i x).take n = (l.take n).set i x := by
 apply List.ext_getElem?
 intro j
 simp only [List.getElem?_take, List.getElem?_set, List.length_take]
 by_cases hj : j < n
 ·by_cases hij : i = j
  ·subst hij
   by_cases hl : i < l.length
   ·simp [hj, hl, show i < min n l.length by omega]
   ·simp [hj, hl, show ¬ i < min n l.length by omega]
  ·simp [hj, hij]
 ·by_cases hij : i = j
  ·subst hij; simp [hj]; omega
  ·simp [hj, hij]
theorem own_set {w : World} {base : Nat} {e : TypeId} {size g n c : Nat} {xs : List Value} (h : w.ownsRow base e size (.slice (some ⟨g, 0, none⟩) n c) n xs) (i : Nat) (u : Value) :
  (w.setCell ⟨g, i, none⟩ u).ownsRow base e size (.slice (some ⟨g, 0, none⟩) n c) n (xs.set i u) := by
 refine ⟨by rw [List.length_set]; exact h.1, ?_⟩
 rcases h.2 with ⟨h0, _⟩ | ⟨g', cap', cur, hv, hge, hh, hn, hcap, hsz, htake⟩
 ·cases h0
 ·cases hv
  refine .inr ⟨g, c, cur.setIfInBounds i u, rfl, hge, heap_setCell_same w g i cur e u hh, hn, hcap, by simpa using hsz, ?_⟩
  rw [Array.toList_setIfInBounds, list_take_set, htake]
theorem own_block {w : World} {base : Nat} {e : TypeId} {size : Nat} {v : Value} {n : Nat} {xs : List Value} (h : w.ownsRow base e size v n xs) (hn : 0 < n) : ∃ g c, v = .slice (some ⟨g, 0, none⟩) n c ∧ base ≤ g ∧ g < w.heap.size ∧ n ≤ c ∧ c ≤ maxLen := by
 rcases h.2 with ⟨_, h0⟩ | ⟨g, c, cur, hv, hge, hh, hnc, hcm, _⟩
 ·omega
 ·exact ⟨g, c, hv, hge, (Array.getElem?_eq_some_iff.1 hh).1, hnc, hcm⟩
end Go.Proofs.Ythlingholhjcnaa
namespace Go.Proofs.Ythlingholhjcnaa
open Go.RowKit
variable {P : Program} {w : World} {t e : TypeId} {size bytes : Nat} {z : Value} {ops : Array Oper} {o : Oper} {a : Act} {K : Act → World → Prop} {Q : Exit → Act → World → Prop} {C : Prop}
theorem step_app (E : Elem P t e size bytes z) (hgd : o.guard = none) (s x : Operand)
  (ho : o.op = .call { callee := .builtin .append, args := #[s, x], argTypes := #[t, t] })
  (base : Nat) (v : Value) (n : Nat) (xs : List Value) (hs : a.eval s = v) (hown : w.ownsRow base e size v n xs)
  (ad : Addr) (m c : Nat) (news : List Value) (hx : a.eval x = .slice (some ad) m c) (hl : news.length = m * size) (hrow : Row w (some ad) news) (h1 : ∀ u ∈ news, u.oneCell' = true)
  (h63 : n + m ≤ maxLen) (hbytes : (n + m) * bytes ≤ 140737488355328) (hbase : base ≤ w.heap.size)
  (h : ∀ v' w', w'.ownsRow base e size v' (n + m) (xs ++ news) → w.grownBy w' v.ownBlock → Stayed w v v' → K (a.put o.dst v') w') :
  if Region.wanted o (yielded ops a.tmps) = true then Oper.wp P o a w K Q else C := by
 have hw : Region.wanted o (yielded ops a.tmps) = true := by simp [Region.wanted, hgd]
 rw [if_pos hw]
 obtain ⟨i, hi, hz, hsz, hby⟩ := E.info
 have hnews : ∀ j u, news[j]? = some u → w.cell? (ad.add j) = some u := by
  intro j u hj
  have hjl : j < news.length := (List.getElem?_eq_some_iff.1 hj).1
  obtain ⟨b, o, e1, hc⟩ := hrow (by intro e1; rw [e1] at hjl; simp at hjl)
  cases e1
  rw [addr_add, hc j hjl]
  rw [List.getElem?_eq_getElem hjl] at hj
  exact hj
 obtain ⟨v', w', hr, h2, h3, _⟩ := run_append_own (P := P) w base t o.type e i z size bytes E.desc hi hz hsz hby E.cells E.pos v n xs hown ad m c news hl hnews h1 h63 hbytes hbase
 have h4 := app_stayed E o.type base v n xs hown ad m c news hl hnews h1 h63 hbytes hr
 unfold Oper.wp execOp
 simp only [ho, resolve, invoke, builtin, Sem.run_bind, Sem.run_pure, Result.andThen_ok, List.map_toArray, List.map_cons, List.map_nil, hs, hx, hr]
 exact h v' w' h2 h3 h4
theorem step_appO (E : Elem P t e size bytes z) (hgd : o.guard = none) (s x : Operand)
  (ho : o.op = .call { callee := .builtin .append, args := #[s, x], argTypes := #[t, t] })
  (base : Nat) (v : Value) (n : Nat) (xs : List Value) (hs : a.eval s = v) (hown : w.ownsRow base e size v n xs)
  (p : Option Addr) (m c : Nat) (news : List Value) (hx : a.eval x = .slice p m c) (hl : news.length = m * size) (hnil : p = none → c = 0) (hrow : Row w p news) (h1 : ∀ u ∈ news, u.oneCell' = true)
  (h63 : n + m ≤ maxLen) (hbytes : (n + m) * bytes ≤ 140737488355328) (hbase : base ≤ w.heap.size)
  (h : ∀ v' w', w'.ownsRow base e size v' (n + m) (xs ++ news) → w.grownBy w' v.ownBlock → Stayed w v v' → K (a.put o.dst v') w') :
  if Region.wanted o (yielded ops a.tmps) = true then Oper.wp P o a w K Q else C := by
 cases p with
 | some ad => exact step_app E hgd s x ho base v n xs hs hown ad m c news hx hl hrow h1 h63 hbytes hbase h
 | none =>
  have hw : Region.wanted o (yielded ops a.tmps) = true := by simp [Region.wanted, hgd]
  rw [if_pos hw]
  obtain ⟨i, hi, hz, hsz, hby⟩ := E.info
  have hc : c = 0 := hnil rfl
  subst hc
  have hn : news = [] := by
   apply Classical.byContradiction
   intro hne
   obtain ⟨b, o, e1, _⟩ := hrow hne
   cases e1
  subst hn
  have hm : m = 0 := by
   have := E.pos
   have hl' : 0 = m * size := hl
   rcases Nat.mul_eq_zero.1 hl'.symm with h0 | h0
   ·exact h0
   ·omega
  subst hm
  have hr := run_append_owned_none (P := P) (w := w) base t o.type e i size E.desc hi v n xs hown
  unfold Oper.wp execOp
  simp only [ho, resolve, invoke, builtin, Sem.run_bind, Sem.run_pure, Result.andThen_ok, List.map_toArray, List.map_cons, List.map_nil, hs, hx, hr]
  exact h v w (by simpa using hown) (World.grownBy.refl _ _) (fun g hg => .inl hg)
end Go.Proofs.Ythlingholhjcnaa
