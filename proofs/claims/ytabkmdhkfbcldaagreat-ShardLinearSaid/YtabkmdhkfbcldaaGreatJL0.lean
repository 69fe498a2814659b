/-
 Words and laws for the walks of this seat, over any program: rows of cells that a slice reads, append onto a row of the call's own from any row, maps as lists of pairs.
 What comes in, opened: slices of strings and of integers as rows of cells.
 What comes in, opened: slices of any elements of a set number of cells, as rows of cells.
 What comes in, opened type by type: each type's cells as those of a value of its own.
 Histories of calls in plain words: what is ahead, rows of a name's calls, and their merging.
 What calls answer one by one, name by name; the row of a name.
 A legal order, and the rows of a history: all rows, merged, are legal.
-/
import Derived.WalkKit
import Derived.Maps.OwnOps
import Derived.Lib.AppendStr
import Derived.Laws.AppendOwnNone
import Derived.Deep.QuietTactic
import Derived.BigQuiet
import Derived.WalkSmall
import Derived.ProofKit
import Derived.OpenShut
import Derived.ShutString
import Derived.ChangeOld
import Derived.SizedLaws
import Derived.SliceStrings
import Derived.Deep.Grids
namespace Go.Proofs.YtabkmdhkfbcldaaGreat
open Go.RowKit
open Go.ChangeMaps (setBlock heap_setBlock_same heap_setBlock_other)
theorem hid {p : Prop} (h : p) : Hid p := h
theorem ret_bool {a b : Bool} (h : a = b) : Ending.returned (.bool a) = Ending.returned (.bool b) := by rw [h]
theorem ret_int {k : IntKind} {a b : Int} (h : a = b) : Ending.returned (.int k a) = Ending.returned (.int k b) := by rw [h]
theorem take_succ {α : Type} (xs : List α) (k : Nat) (hk : k < xs.length) : xs.take (k + 1) = xs.take k ++ [xs[k]] := by
 rw [List.take_add_one, List.getElem?_eq_getElem hk]; simp
def Row (w : World) (p : Option Addr) (cs : List Value) : Prop :=
 cs ≠ [] → ∃ b o, p = some ⟨b, o, none⟩ ∧ ∀ i (h : i < cs.length), w.cell? ⟨b, o + i, none⟩ = some cs[i]
theorem Row.nil (w : World) (p : Option Addr) : Row w p [] := fun h => absurd rfl h
theorem Row.at {w : World} {p : Option Addr} {cs : List Value} (h : Row w p cs) (hp : 0 < cs.length) :
  ∃ b o, p = some ⟨b, o, none⟩ ∧ b < w.heap.size ∧ ∀ i (h : i < cs.length), w.cell? ⟨b, o + i, none⟩ = some cs[i] := by
 obtain ⟨b, o, rfl, hc⟩ := h (by intro e; rw [e] at hp; simp at hp)
 exact ⟨b, o, rfl, World.block_lt_of_cell? w _ (hc 0 hp), hc⟩
theorem Row.below {W w : World} {p : Option Addr} {cs : List Value} (h : Row W p cs) (hb : Below W.heap.size W w) : Row w p cs := by
 intro hne
 obtain ⟨b, o, rfl, hc⟩ := h hne
 refine ⟨b, o, rfl, fun i hi => ?_⟩
 have hlt := World.block_lt_of_cell? W _ (hc i hi)
 rw [hb.cell (p := ⟨b, o + i, none⟩) hlt]
 exact hc i hi
theorem Row.kept {w w' : World} {p : Option Addr} {cs : List Value} {row : Option Nat} (h : Row w p cs) (hg : w.grownBy w' row) (hr : ∀ a, p = some a → some a.block ≠ row) : Row w' p cs := by
 intro hne
 obtain ⟨b, o, rfl, hc⟩ := h hne
 exact ⟨b, o, rfl, fun i hi => hg.cell (hc i hi) (hr ⟨b, o, none⟩ rfl)⟩
theorem Row.alloc {w : World} {p : Option Addr} {cs : List Value} (h : Row w p cs) (o : Obj) : Row (w.alloc o) p cs :=
 h.kept (World.grownBy_alloc w o none) (by simp)
theorem own_drewN {w : World} {base : Nat} {e : TypeId} {size : Nat} {v : Value} {n : Nat} {xs : List Value} (h : w.ownsRow base e size v n xs) (q : Nat) : (w.drewN q).ownsRow base e size v n xs := h
theorem Row.take {w : World} {p : Option Addr} {cs : List Value} (h : Row w p cs) (k : Nat) : Row w p (cs.take k) := by
 intro hne
 obtain ⟨b, o, rfl, hc⟩ := h (by intro e; rw [e] at hne; simp at hne)
 refine ⟨b, o, rfl, fun i hi => ?_⟩
 have hi' : i < cs.length := by simp at hi; omega
 rw [List.getElem_take]
 exact hc i hi'
theorem Row.cell {w : World} {b o : Nat} {cs : List Value} (h : Row w (some ⟨b, o, none⟩) cs) (i : Nat) (hi : i < cs.length) : w.cell? ⟨b, o + i, none⟩ = some cs[i] := by
 obtain ⟨b', o', e, hc⟩ := h (by intro e; rw [e] at hi; simp at hi)
 cases e
 exact hc i hi
theorem addr_add (b o i : Nat) : (⟨b, o, none⟩ : Addr).add i = ⟨b, o + i, none⟩ := Addr.add_lit _ _ _
theorem own_row {w : World} {base : Nat} {e : TypeId} {size : Nat} {v : Value} {n : Nat} {xs : List Value} (h : w.ownsRow base e size v n xs) :
  ∃ p c, v = .slice p n c ∧ n ≤ c ∧ c ≤ maxLen ∧ Row w p xs ∧ (p = none → n = 0) ∧ (∀ a, p = some a → base ≤ a.block) := by
 rcases h.2 with ⟨rfl, rfl⟩ | ⟨g, cap, cur, rfl, hb, hg, hnc, hcm, hcs, htake⟩
 ·have : xs = [] := List.eq_nil_of_length_eq_zero (by simpa using h.1)
  subst this
  exact ⟨none, 0, rfl, Nat.le_refl _, Nat.zero_le _, Row.nil _ _, fun _ => rfl, by simp⟩
 ·refine ⟨some ⟨g, 0, none⟩, cap, rfl, hnc, hcm, ?_, by simp, by simpa using hb⟩
  intro _
  refine ⟨g, 0, rfl, fun i hi => ?_⟩
  have := h.cells (g := g) rfl i xs[i] (by simp [hi])
  rwa [addr_add] at this
theorem own_shape {w : World} {base : Nat} {e : TypeId} {size : Nat} {v : Value} {n : Nat} {xs : List Value} (h : w.ownsRow base e size v n xs) : ∃ p c, v = .slice p n c ∧ Row w p xs := by
 obtain ⟨p, c, e1, _, _, hr, _⟩ := own_row h
 exact ⟨p, c, e1, hr⟩
theorem row_new (w : World) (cs : List Value) (e : TypeId) : Row (w.alloc (.cells cs.toArray e)) (some ⟨w.heap.size, 0, none⟩) cs := by
 intro _
 refine ⟨w.heap.size, 0, rfl, fun i hi => ?_⟩
 rw [cell_of_row (w.alloc (.cells cs.toArray e)) w.heap.size (0 + i) cs.toArray e (0, 0) (heap_alloc_new w _)]
 simp [hi]
theorem row_newAt (w : World) (cs : List Value) (e : TypeId) (n : Nat) (hn : n = w.heap.size) : Row (w.alloc (.cells cs.toArray e)) (some ⟨n, 0, none⟩) cs := by
 subst hn; exact row_new w cs e
theorem own_new (w : World) (cs : List Value) (e : TypeId) (base n size : Nat) (hb : base ≤ w.heap.size) (hn : cs.length = n * size) (hm : n ≤ maxLen) :
  (w.alloc (.cells cs.toArray e)).ownsRow base e size (.slice (some ⟨w.heap.size, 0, none⟩) n n) n cs :=
 ⟨hn, .inr ⟨w.heap.size, n, cs.toArray, rfl, hb, heap_alloc_new w _, Nat.le_refl _, hm, by simp [hn], by simp [← hn]⟩⟩
structure Elem (P : Program) (t e : TypeId) (size bytes : Nat) (z : Value) : Prop where
 desc : P.underlying t = some (.slice e)
 info : ∃ i, P.info? e = some i ∧ i.zero = some z ∧ i.size = size ∧ i.bytes = bytes
 cells : z.cells.size = size
 pos : 0 < size
theorem Elem.mk' {P : Program} {t e : TypeId} {z : Value} {size bytes : Nat} (h1 : P.underlying t = some (.slice e)) (h2 : (P.info? e).map (fun i => (i.zero, i.size, i.bytes)) = some (some z, size, bytes)) (h3 : z.cells.size = size) (h4 : 0 < size) : Elem P t e size bytes z :=
 ⟨h1, info_parts h2, h3, h4⟩
def Stayed (w : World) (v v' : Value) : Prop := ∀ g, v'.ownBlock = some g → v.ownBlock = some g ∨ w.heap.size ≤ g
theorem stayed_of_ok {P : Program} {w : World} {s : Sem Value} {v v1 v' : Value} {w1 w' : World} (h : s.run P w = .ok v1 w1) (h' : s.run P w = .ok v' w') (hs : Stayed w v v1) : Stayed w v v' := by
 rw [h] at h'
 cases h'
 exact hs
theorem stayed_new (w : World) (v : Value) (n c : Nat) : Stayed w v (.slice (some ⟨w.heap.size, 0, none⟩) n c) := by
 intro g hg
 simp [Value.ownBlock] at hg
 exact .inr (by omega)
def Apart (v u : Value) : Prop := ∀ g, v.ownBlock = some g → u.ownBlock ≠ some g
theorem Apart.symm {v u : Value} (h : Apart v u) : Apart u v := fun g hg hv => h g hv hg
theorem Apart.stayed {w : World} {v v' u : Value} (h : Apart v u) (hs : Stayed w v v') (hu : ∀ g, u.ownBlock = some g → g < w.heap.size) : Apart v' u := by
 intro g hg hug
 rcases hs g hg with h1 | h1
 ·exact h g h1 hug
 ·have := hu g hug; omega
theorem ne_stayed {w : World} {v v' : Value} {b : Nat} (hs : Stayed w v v') (h : v.ownBlock ≠ some b) (hlt : b < w.heap.size) : v'.ownBlock ≠ some b := by
 intro e
 rcases hs _ e with h1 | h1
 ·exact h h1
 ·omega
theorem Apart.nil (v : Value) : Apart (.slice none 0 0) v := fun g hg => by simp [Value.ownBlock] at hg
theorem own_lt {w : World} {base : Nat} {e : TypeId} {size : Nat} {v : Value} {n : Nat} {xs : List Value} (h : w.ownsRow base e size v n xs) : ∀ g, v.ownBlock = some g → g < w.heap.size := fun g hg => (h.lt g hg).2
theorem own_ge {w : World} {base : Nat} {e : TypeId} {size : Nat} {v : Value} {n : Nat} {xs : List Value} (h : w.ownsRow base e size v n xs) : ∀ g, v.ownBlock = some g → base ≤ g := fun g hg => (h.lt g hg).1
theorem own_kept {w w' : World} {base : Nat} {e : TypeId} {size : Nat} {v u : Value} {n : Nat} {xs : List Value} (h : w.ownsRow base e size v n xs) (hg : w.grownBy w' u.ownBlock) (ha : Apart v u) : w'.ownsRow base e size v n xs := by
 refine h.kept hg ?_
 cases hv : v.ownBlock with
 | none => exact .inl rfl
 | some g => exact .inr (fun e => ha g hv e.symm)
section
variable {P : Program} {w : World} {t e : TypeId} {size bytes : Nat} {z : Value}
theorem app_stayed (E : Elem P t e size bytes z) (ty : TypeId) (base : Nat) (v : Value) (n : Nat) (xs : List Value) (hown : w.ownsRow base e size v n xs)
  (a : Addr) (m c : Nat) (news : List Value) (hl : news.length = m * size) (hnews : ∀ j u, news[j]? = some u → w.cell? (a.add j) = some u) (h1 : ∀ u ∈ news, u.oneCell' = true)
  (h63 : n + m ≤ maxLen) (hbytes : (n + m) * bytes ≤ 140737488355328) {v' : Value} {w' : World} (hr : (Builtin.append_ #[t, t] ty #[v, .slice (some a) m c]).run P w = .ok v' w') : Stayed w v v' := by
 obtain ⟨i, hi, hz, hsz, hby⟩ := E.info
 subst hsz
 subst hby
 have hsmall : n + m ≤ 9223372036854775807 := by simp only [maxLen] at h63; omega
 rcases hown.2 with ⟨rfl, rfl⟩ | ⟨g, cap, cur, rfl, hbg, hg, hnc, hcm, hcs, htake⟩
 ·by_cases hm : m = 0
  ·subst hm
   have hn : news = [] := List.eq_nil_of_length_eq_zero (by simpa using hl)
   subst hn
   refine stayed_of_ok (w1 := w) (v1 := .slice none 0 0) ?_ hr (fun g hg => .inl hg)
   simp [Builtin.append_, run_underlying E.desc, sizeOf, typeInfo, hi, Builtin.lenOf, Builtin.firstCells, loadCells, loadCellsFrom]
  ·exact stayed_of_ok (run_append_nil (P := P) w t ty e i z E.desc hi hz a m c news hl hnews (by omega) (by omega) (by have hb := hbytes; simp only [Nat.zero_add] at hb; omega)) hr (stayed_new _ _ _ _)
 ·by_cases hroom : n + m ≤ cap
  ·have hfit : n * i.size + news.length ≤ cur.size := by rw [hl, hcs, ← Nat.add_mul]; exact Nat.mul_le_mul_right _ hroom
   exact stayed_of_ok (run_append_room (P := P) w t ty e i E.desc hi g n cap cur hg a m c news hl hnews h1 hroom hfit) hr (fun g' hg' => .inl hg')
  ·have holds : ∀ j u, xs[j]? = some u → w.cell? ((⟨g, 0, none⟩ : Addr).add j) = some u := hown.cells (g := g) rfl
   exact stayed_of_ok (run_append_grow (P := P) w t ty e i z E.desc hi hz ⟨g, 0, none⟩ n cap xs hown.1 holds a m c news hl hnews (by omega) (by omega) (growslice_fits (by omega) hbytes)) hr (stayed_new _ _ _ _)
variable {ops : Array Oper} {rest : List Oper} {o : Oper} {a : Act} {Q : Exit → Act → World → Prop}
theorem wpList_app (E : Elem P t e size bytes z) (hgd : o.guard = none) (s x : Operand)
  (ho : o.op = .call { callee := .builtin .append, args := #[s, x], argTypes := #[t, t] })
  (base : Nat) (v : Value) (n : Nat) (xs : List Value) (hs : a.eval s = v) (hown : w.ownsRow base e size v n xs)
  (p : Option Addr) (m c : Nat) (news : List Value) (hx : a.eval x = .slice p m c) (hl : news.length = m * size) (hnil : p = none → c = 0) (hrow : Row w p news) (h1 : ∀ u ∈ news, u.oneCell' = true)
  (h63 : n + m ≤ maxLen) (hbytes : (n + m) * bytes ≤ 140737488355328) (hbase : base ≤ w.heap.size)
  (h : ∀ v' w', w'.ownsRow base e size v' (n + m) (xs ++ news) → w.grownBy w' v.ownBlock → Stayed w v v' → wpList P ops Q rest (a.put o.dst v') w') : wpList P ops Q (o :: rest) a w := by
 obtain ⟨i, hi, hz, hsz, hby⟩ := E.info
 cases p with
 | none =>
  have hc : c = 0 := hnil rfl
  subst hc
  have hn : news = [] := by
   apply Classical.byContradiction
   intro hne
   obtain ⟨b, o, e1, _⟩ := hrow hne
   cases e1
  subst hn
  have hm : m = 0 := by
   have := E.pos
   have hl' : 0 = m * size := hl
   rcases Nat.mul_eq_zero.1 hl'.symm with h0 | h0
   ·exact h0
   ·omega
  subst hm
  refine wpList_append_own_none hgd s x t ho base e i size E.desc hi v n xs hs hown hx (h v w (by simpa using hown) (World.grownBy.refl _ _) (fun g hg => .inl hg))
 | some ad =>
  have hnews : ∀ j u, news[j]? = some u → w.cell? (ad.add j) = some u := by
   intro j u hj
   have hjl : j < news.length := (List.getElem?_eq_some_iff.1 hj).1
   obtain ⟨b, o, e1, hc⟩ := hrow (by intro e1; rw [e1] at hjl; simp at hjl)
   cases e1
   rw [addr_add, hc j hjl]
   rw [List.getElem?_eq_getElem hjl] at hj
   exact hj
  refine wpList_plain hgd fun K hK => ?_
  obtain ⟨v', w', hr, h2, h3, _⟩ := run_append_own (P := P) w base t o.type e i z size bytes E.desc hi hz hsz hby E.cells E.pos v n xs hown ad m c news hl hnews h1 h63 hbytes hbase
  have h4 := app_stayed E o.type base v n xs hown ad m c news hl hnews h1 h63 hbytes hr
  unfold Oper.wp execOp
  simp only [ho, resolve, invoke, builtin, Sem.run_bind, Sem.run_pure, Result.andThen_ok, List.map_toArray, List.map_cons, List.map_nil, hs, hx, hr]
  exact hK _ _ (h v' w' h2 h3 h4)
end
section
variable {P : Program} {w : World} {t e : TypeId} {size bytes : Nat} {z : Value} {ops : Array Oper} {rest : List Oper} {o : Oper} {a : Act} {Q : Exit → Act → World → Prop}
theorem wpList_mkfull (E : Elem P t e size bytes z) (hgd : o.guard = none) (l c : Operand) (ho : o.op = .makeSlice t l c) (base : Nat) (kl kc : IntKind) (L C : Int) (n : Nat) (hl : a.eval l = .int kl L) (hc : a.eval c = .int kc C) (hL : L = (n : Int)) (hC : C = (n : Int))
  (hb : bytes * n ≤ 281474976710656) (hm : n ≤ maxLen) (hbase : base ≤ w.heap.size)
  (h : ∀ w', w'.ownsRow base e size (.slice (some ⟨w.heap.size, 0, none⟩) n n) n (madeCells z.cells (n * size)).toList → w.grownBy w' none → wpList P ops Q rest (a.put o.dst (.slice (some ⟨w.heap.size, 0, none⟩) n n)) w') : wpList P ops Q (o :: rest) a w := by
 obtain ⟨i, hi, hz, hsz, hby⟩ := E.info
 exact wpList_make_full w hgd l c t ho base e i z size E.desc hi hz hsz kl kc L C n hl hc hL hC (by rw [hby]; exact hb) hm hbase h
end
/-! ### Maps as lists of pairs, in the order in which their keys came. -/
structure KeyOk {κ : Type} (P : Program) (k : TypeId) (mk : κ → Value) [DecidableEq κ] : Prop where
 desc : ∃ d, P.underlying k = some d ∧ (∀ a b, Instr.sameNow d (mk a) (mk b) = some (decide (a = b))) ∧ (∀ (w : World) em a, (Instr.checkKey em 10000 k (mk a)).run P w = .ok () w)
 bits : ∀ a, Instr.sameBits 10000 (mk a) (mk a) = true
theorem beq_ba (a b : ByteArray) : (a == b) = decide (a = b) := by
 rw [beq_toListBytes]
 by_cases h : a = b
 ·simp [h]
 ·have hn : ¬ a.toList = b.toList := fun e => h (by
   rw [ByteArray.toList_eq, ByteArray.toList_eq] at e
   cases a; cases b; simp at e; simp [e])
  simp [h, hn]
theorem strEq {a b : ByteArray} (h : a = b) : (a.toList == b.toList) = true := by rw [← beq_toListBytes, beq_ba]; simp [h]
theorem strNe {a b : ByteArray} (h : a ≠ b) : (a.toList == b.toList) = false := by rw [← beq_toListBytes, beq_ba]; simp [h]
theorem keyOk_string {P : Program} {k : TypeId} (h : P.underlying k = some .string) : KeyOk P k Value.string := by
 refine ⟨⟨.string, h, fun a b => by simp [Instr.sameNow, beq_ba], fun w em a => ?_⟩, fun a => by simp [Instr.sameBits, beq_ba]⟩
 exact MapKept.run_checkKey (k := .string a) h True.intro em 9999
theorem keyOk_int {P : Program} {k : TypeId} {q : IntKind} (h : P.underlying k = some (.int q)) : KeyOk P k (Value.int q) := by
 refine ⟨⟨.int q, h, fun a b => by by_cases h : a = b <;> simp [Instr.sameNow, h], fun w em a => ?_⟩, fun a => by simp [Instr.sameBits]⟩
 exact MapKept.run_checkKey (k := .int q a) h rfl em 9999
section
variable {κ β : Type} [DecidableEq κ] {P : Program} {k : TypeId} {mk : κ → Value} {mv : β → Value}
def alook : List (κ × β) → κ → Option β
 | [], _ => none
 | (a, v) :: r, x => if x = a then some v else alook r x
def aset : List (κ × β) → κ → β → List (κ × β)
 | [], x, u => [(x, u)]
 | (a, v) :: r, x, u => if x = a then (a, u) :: r else (a, v) :: aset r x u
def adel : List (κ × β) → κ → List (κ × β)
 | [], _ => []
 | (a, v) :: r, x => if x = a then r else (a, v) :: adel r x
def MapIs (mk : κ → Value) (mv : β → Value) (w : World) (b : Nat) (m : List (κ × β)) : Prop :=
 ∃ es clock, w.heap[b]? = some (.map es clock) ∧ es.toList.map (fun x => (x.key, x.val)) = m.map (fun x => (mk x.1, mv x.2)) ∧ MapKept.Stamped es clock
omit [DecidableEq κ] in
theorem MapIs.lt {w : World} {b : Nat} {m : List (κ × β)} (h : MapIs mk mv w b m) : b < w.heap.size := by
 obtain ⟨es, clock, hb, _⟩ := h
 exact (Array.getElem?_eq_some_iff.1 hb).1
omit [DecidableEq κ] in
theorem MapIs.kept {w w' : World} {b : Nat} {m : List (κ × β)} {row : Option Nat} (h : MapIs mk mv w b m) (hg : w.grownBy w' row) (hne : some b ≠ row) : MapIs mk mv w' b m := by
 have hlt := h.lt
 obtain ⟨es, clock, hb, F⟩ := h
 exact ⟨es, clock, (hg.block b hlt hne).trans hb, F⟩
omit [DecidableEq κ] in
theorem MapIs.alloc {w : World} {b : Nat} {m : List (κ × β)} (h : MapIs mk mv w b m) (o : Obj) : MapIs mk mv (w.alloc o) b m := h.kept (World.grownBy_alloc w o none) (by simp)
omit [DecidableEq κ] in
theorem MapIs.below {B : Nat} {w w' : World} {b : Nat} {m : List (κ × β)} (h : MapIs mk mv w b m) (hb : Below B w w') (hlt : b < B) : MapIs mk mv w' b m := by
 obtain ⟨es, clock, h1, F⟩ := h
 exact ⟨es, clock, (hb.block b hlt).trans h1, F⟩
omit [DecidableEq κ] in
theorem MapIs.made (mk : κ → Value) (mv : β → Value) (w : World) : MapIs mk mv (w.alloc (.map #[] 0)) w.heap.size [] := ⟨#[], 0, heap_alloc_new w _, rfl, MapKept.stamped_empty 0⟩
theorem findNow_spec {d : TypeDesc} (hd : ∀ a b, Instr.sameNow d (mk a) (mk b) = some (decide (a = b))) (x : κ) :
  ∀ (m : List (κ × β)) (es : List MapEntry) (i : Nat), es.map (fun x => (x.key, x.val)) = m.map (fun x => (mk x.1, mv x.2)) →
  (alook m x = none ∧ Instr.findNow d (mk x) es i = some none ∧ ∀ u, aset m x u = m ++ [(x, u)]) ∨
  ∃ j v e, alook m x = some v ∧ Instr.findNow d (mk x) es i = some (some (i + j, mv v)) ∧ es[j]? = some e ∧ e.key = mk x ∧ j < es.length ∧
   (∀ u, (es.modify j (fun e => { e with key := mk x, val := mv u })).map (fun x => (x.key, x.val)) = (aset m x u).map (fun x => (mk x.1, mv x.2))) ∧
   (es.eraseIdx j).map (fun x => (x.key, x.val)) = (adel m x).map (fun x => (mk x.1, mv x.2)) := by
 intro m
 induction m with
 | nil =>
  intro es i h
  have : es = [] := by simpa using h
  subst this
  exact .inl ⟨rfl, rfl, fun _ => rfl⟩
 | cons p r ih =>
  intro es i h
  cases es with
  | nil => simp at h
  | cons e es =>
   simp only [List.map_cons, List.cons.injEq, Prod.mk.injEq] at h
   obtain ⟨⟨hk, hv⟩, hr⟩ := h
   by_cases hx : x = p.1
   ·right
    subst hx
    refine ⟨0, p.2, e, by simp [alook], ?_, rfl, hk, by simp, fun u => ?_, ?_⟩
    ·simp [Instr.findNow, hk, hd, hv]
    ·simp [aset, List.modify, hr]
    ·simp [adel, hr]
   ·have hn : Instr.sameNow d (mk x) e.key = some false := by rw [hk, hd]; simp [hx]
    rcases ih es (i + 1) hr with ⟨h1, h2, h3⟩ | ⟨j, v, e', h1, h2, h3, h4, h5, h6, h7⟩
    ·exact .inl ⟨by simp [alook, hx, h1], by simp [Instr.findNow, hn, h2], fun u => by simp [aset, hx, h3]⟩
    ·refine .inr ⟨j + 1, v, e', by simp [alook, hx, h1], by simp [Instr.findNow, hn, h2]; omega, by simpa using h3, h4, by simp; omega, fun u => ?_, ?_⟩
     ·simp [aset, hx, h6, hk, hv]
     ·simp [adel, hx, h7, hk, hv]
theorem alook_ne {x : κ} : ∀ {m : List (κ × β)}, alook m x = none → ∀ p ∈ m, p.1 ≠ x
 | (a, v) :: r, h, p, hp => by
  by_cases hx : x = a
  ·simp [alook, hx] at h
  ·simp [alook, hx] at h
   rcases List.mem_cons.1 hp with rfl | hp
   ·exact fun e => hx e.symm
   ·exact alook_ne h p hp
theorem KeyOk.inj (K : KeyOk P k mk) {a b : κ} (h : mk a = mk b) : a = b := by
 obtain ⟨d, _, hs, _⟩ := K.desc
 have h1 := hs a a
 have h2 := hs a b
 rw [← h, h1] at h2
 simpa using h2
theorem entry_ne (K : KeyOk P k mk) {es : Array MapEntry} {m : List (κ × β)} (F : es.toList.map (fun x => (x.key, x.val)) = m.map (fun x => (mk x.1, mv x.2))) {x : κ} (h : alook m x = none) : ∀ e ∈ es.toList, e.key ≠ mk x := fun e he hk => by
 have hm : (e.key, e.val) ∈ m.map (fun x => (mk x.1, mv x.2)) := by rw [← F]; exact List.mem_map_of_mem (f := fun x : MapEntry => (x.key, x.val)) he
 obtain ⟨p, hp, hpe⟩ := List.mem_map.1 hm
 have : mk p.1 = mk x := (congrArg Prod.fst hpe).trans hk
 exact alook_ne h p hp (K.inj this)
theorem MapIs.run_lookup {t el : TypeId} {w : World} {b : Nat} {m : List (κ × β)} (h : MapIs mk mv w b m) (K : KeyOk P k mk) (ht : P.underlying t = some (.map k el)) {z : Value} (hz : (zeroValue el).run P w = .ok z w) (x : κ) (c : Bool) :
  (Instr.lookup t (.map (some b)) (mk x) c).run P w = .ok (if c then .tuple #[((alook m x).map mv).getD z, .bool (alook m x).isSome] else ((alook m x).map mv).getD z) w := by
 obtain ⟨es, clock, hb, F, ST⟩ := h
 obtain ⟨d, hd, hs, hck⟩ := K.desc
 rcases findNow_spec hs x m es.toList 0 F with ⟨h1, h2, _⟩ | ⟨j, v, e, h1, h2, _⟩
 ·simp [Instr.lookup, run_underlying ht, MapKept.run_getObj_map hb, hck, Instr.findKey, run_underlying hd, h2, h1, hz, Result.andThen]
 ·simp [Instr.lookup, run_underlying ht, MapKept.run_getObj_map hb, hck, Instr.findKey, run_underlying hd, h2, h1, Result.andThen]
theorem MapIs.run_update {t el : TypeId} {w : World} {b : Nat} {m : List (κ × β)} (h : MapIs mk mv w b m) (K : KeyOk P k mk) (ht : P.underlying t = some (.map k el)) (x : κ) (u : β) :
  ∃ w', (Instr.mapUpdate t (.map (some b)) (mk x) (mv u)).run P w = .ok () w' ∧ MapIs mk mv w' b (aset m x u) ∧ w.grownBy w' (some b) := by
 obtain ⟨es, clock, hb, F, ST⟩ := h
 obtain ⟨d, hd, hs, hck⟩ := K.desc
 have hgrow : ∀ o, w.grownBy (setBlock w b o) (some b) := fun o =>
  ⟨rfl, rfl, rfl, by simp [setBlock], fun i _ hi => heap_setBlock_other hb o (fun e => hi (by rw [e]))⟩
 rcases findNow_spec hs x m es.toList 0 F with ⟨h1, h2, h3⟩ | ⟨j, v, e, h1, h2, h4, h5, h6, h7, _⟩
 ·refine ⟨setBlock w b (.map (es.push ⟨mk x, mv u, clock⟩) (clock + 1)), ?_, ⟨_, _, heap_setBlock_same hb _, ?_, MapKept.stamped_push ST (entry_ne K F h1)⟩, hgrow _⟩
  ·simp [Instr.mapUpdate, run_underlying ht, MapKept.run_getObj_map hb, hck, Instr.findKey, run_underlying hd, h2, MapKept.run_setObj_map _ hb, Result.andThen, setBlock]
  ·rw [h3]; simp [F]
 ·have he : (es[j]?).map (·.key) = some (mk x) := by
   rw [← Array.getElem?_toList, h4]; simp [h5]
  refine ⟨setBlock w b (.map (es.modify j fun e => { e with key := mk x, val := mv u }) clock), ?_, ⟨_, _, heap_setBlock_same hb _, ?_, MapKept.stamped_modify ST j _ (fun _ _ => rfl) (fun e' _ he' => by rw [← Array.getElem?_toList, h4] at he'; cases he'; exact h5.symm)⟩, hgrow _⟩
  ·simp only [Nat.zero_add] at h2
   simp [Instr.mapUpdate, run_underlying ht, MapKept.run_getObj_map hb, hck, Instr.findKey, run_underlying hd, h2, Result.andThen, he, Instr.keyThatStays, K.bits, MapKept.run_setObj_map _ hb, setBlock]
  ·rw [← h7 u]; simp
theorem MapIs.run_delete {t el ty : TypeId} {w : World} {b : Nat} {m : List (κ × β)} (h : MapIs mk mv w b m) (K : KeyOk P k mk) (ht : P.underlying t = some (.map k el)) (x : κ) :
  ∃ w', (Builtin.delete_ #[t, k] ty #[.map (some b), mk x]).run P w = .ok (.tuple #[]) w' ∧ MapIs mk mv w' b (adel m x) ∧ w.grownBy w' (some b) := by
 obtain ⟨es, clock, hb, F, ST⟩ := h
 obtain ⟨d, hd, hs, hck⟩ := K.desc
 have hgrow : ∀ o, w.grownBy (setBlock w b o) (some b) := fun o =>
  ⟨rfl, rfl, rfl, by simp [setBlock], fun i _ hi => heap_setBlock_other hb o (fun e => hi (by rw [e]))⟩
 rcases findNow_spec hs x m es.toList 0 F with ⟨h1, h2, h3⟩ | ⟨j, v, e, h1, h2, h4, h5, h6, _, h7⟩
 ·have hdel : adel m x = m := by
   clear F h2 h3
   induction m with
   | nil => rfl
   | cons p r ih =>
    simp only [alook] at h1
    by_cases hx : x = p.1
    ·simp [hx] at h1
    ·simp [hx] at h1; simp [adel, hx, ih h1]
  refine ⟨setBlock w b (.map es clock), ?_, ⟨_, _, heap_setBlock_same hb _, ?_, ST⟩, hgrow _⟩
  ·simp [Builtin.delete_, run_underlying ht, MapKept.run_getObj_map hb, hck, Instr.findKey, run_underlying hd, h2, MapKept.run_setObj_map _ hb, Result.andThen, setBlock]
  ·rw [hdel]; exact F
 ·refine ⟨setBlock w b (.map (es.eraseIdxIfInBounds j) clock), ?_, ⟨_, _, heap_setBlock_same hb _, ?_, MapKept.stamped_erase ST j⟩, hgrow _⟩
  ·simp only [Nat.zero_add] at h2
   simp [Builtin.delete_, run_underlying ht, MapKept.run_getObj_map hb, hck, Instr.findKey, run_underlying hd, h2, MapKept.run_setObj_map _ hb, Result.andThen, setBlock]
  ·have hjs : j < es.size := by simpa using h6
   unfold Array.eraseIdxIfInBounds
   rw [dif_pos hjs]
   simpa using h7
theorem wpList_maplook {w : World} {ops : Array Oper} {rest : List Oper} {o : Oper} {a : Act} {Q : Exit → Act → World → Prop} {t el : TypeId}
  (K : KeyOk P k mk) (ht : P.underlying t = some (.map k el)) (hg : o.guard = none) (mo xo : Operand) (c : Bool) (hop : o.op = Op.lookup t mo xo c)
  (z : Value) (hz : (zeroValue el).run P w = .ok z w) (b : Nat) (m : List (κ × β)) (hm : a.eval mo = .map (some b)) (h : MapIs mk mv w b m) (x : κ) (hx : a.eval xo = mk x)
  (hK : wpList P ops Q rest (a.put o.dst (if c then .tuple #[((alook m x).map mv).getD z, .bool (alook m x).isSome] else ((alook m x).map mv).getD z)) w) : wpList P ops Q (o :: rest) a w := by
 refine wpList_plain hg fun K' hK' => ?_
 unfold Oper.wp
 simp [execOp, hop, hm, hx, h.run_lookup K ht hz x c, Result.andThen]
 exact hK' _ _ hK
end
end Go.Proofs.YtabkmdhkfbcldaaGreat
namespace Go.Proofs.YtabkmdhkfbcldaaGreat
open Go.RowKit Go.ChangeShapes Go.WideShapes Go.ChangeAt
section
variable {H : Type} {enc : TypeId × Value → H} {P : Program} {W : World}
theorem row_of_cells {p : Addr} {cs : List Value} (h : ∀ i (h : i < cs.length), W.cell? (p.add i) = some cs[i]) : Row W (some p) cs := by
 intro hne
 have h0 : 0 < cs.length := by cases cs with | nil => exact absurd rfl hne | cons a l => simp
 obtain ⟨b, o, s⟩ := p
 have hs : s = none := by
  have := h 0 h0
  cases s with
  | none => rfl
  | some x =>
   have e : (⟨b, o, some x⟩ : Addr).add 0 = ⟨b, o, some x⟩ := by simp [Addr.add]
   rw [e] at this
   simp only [World.cell?] at this
   split at this <;> simp at this
 subst hs
 exact ⟨b, o, rfl, fun i hi => by rw [← addr_add]; exact h i hi⟩
end
end Go.Proofs.YtabkmdhkfbcldaaGreat
namespace Go.Proofs.YtabkmdhkfbcldaaGreat
open Go.RowKit Go.ChangeShapes Go.WideShapes Go.ChangeAt
theorem flat_len {α : Type} (f : α → List Value) (k : Nat) (hk : ∀ x, (f x).length = k) (xs : List α) : (xs.flatMap f).length = k * xs.length := by
 induction xs with
 | nil => rfl
 | cons a l ih => simp only [List.flatMap_cons, List.length_append, hk, ih, List.length_cons]; rw [Nat.mul_succ]; omega
theorem flat_get {α : Type} (f : α → List Value) (k : Nat) (hk : ∀ x, (f x).length = k) : ∀ (xs : List α) (q : Nat) (h : q < xs.length) (j : Nat) (_ : j < k), (xs.flatMap f)[k * q + j]? = (f xs[q])[j]?
 | [], q, h, _, _ => by simp at h
 | a :: l, 0, _, j, hj => by
  rw [List.flatMap_cons, List.getElem?_append_left (by rw [hk]; omega)]
  simp
 | a :: l, q + 1, h, j, hj => by
  rw [List.flatMap_cons, List.getElem?_append_right (by rw [hk, Nat.mul_succ]; omega), hk]
  have := flat_get f k hk l q (by simpa using h) j hj
  rw [show k * (q + 1) + j - k = k * q + j by rw [Nat.mul_succ]; omega, this]
  simp
section
variable {H : Type} {enc : TypeId × Value → H} {P : Program} {W : World}
end
end Go.Proofs.YtabkmdhkfbcldaaGreat
namespace Go.Proofs.YtabkmdhkfbcldaaGreat
open Go.RowKit Go.ChangeShapes Go.WideShapes Go.ChangeAt
section
variable {H : Type} (enc : TypeId × Value → H) (P : Program) (W : World)
def Light (t : TypeId) (d : DataW H) : Prop := ∀ m ∈ d.weights P t, m ≤ 140737488351232
def OpensAs (t : TypeId) {α : Type} (f : α → List Value) (ok : α → Prop) : Prop :=
 ∀ (n : Nat) (cs : List Value) (y : DataW H × List MemPlace), DataW.trod enc P W 0 (fun _ => true) true n t cs = some y → Light P t y.1 → ∃ x, cs = f x ∧ ok x
variable {enc P W}
theorem light_all {t : TypeId} : ∀ {ds : List (DataW H)} {d : DataW H}, d ∈ ds → (∀ m ∈ DataW.weightsAll P t ds, m ≤ 140737488351232) → Light P t d
 | [], d, h, _ => by cases h
 | a :: l, d, h, hw => by
  simp only [DataW.weightsAll, List.mem_append] at hw
  rcases List.mem_cons.1 h with rfl | h
  ·exact fun m hm => hw m (.inl hm)
  ·exact light_all h (fun m hm => hw m (.inr hm))
theorem light_each : ∀ {ts : List TypeId} {ds : List (DataW H)} {j : Nat} {t : TypeId} {d : DataW H}, ts[j]? = some t → ds[j]? = some d → (∀ m ∈ DataW.weightsEach P ts ds, m ≤ 140737488351232) → Light P t d :=
 fun h1 h2 hw m hm => hw m (DataW.weights_mem_each h1 h2 m hm)
theorem light_field {t : TypeId} {fs : Array Field} {xs : List (DataW H × List MemPlace)} (ht : P.underlying t = some (.struct fs)) (h : Light P t (.agg (xs.map (·.1)))) {j : Nat} {f : Field} {y : DataW H × List MemPlace} (hf : fs[j]? = some f) (hx : xs[j]? = some y) : Light P f.type y.1 := by
 refine light_each (ts := fs.toList.map (·.type)) (ds := xs.map (·.1)) (j := j) (by simp [hf]) (by simp [hx]) ?_
 intro m hm
 refine h m ?_
 rw [DataW.weights, ht]
 exact hm
theorem opens_int {t : TypeId} {k : IntKind} (ht : P.underlying t = some (.int k)) : OpensAs enc P W t (fun n : Int => [Value.int k n]) (fun n => (Lit.int k n).wf = true) := fun n cs y h _ => by
 obtain ⟨m, e, _, w⟩ := DataW.trod_int ht h
 exact ⟨m, e, w⟩
theorem opens_intSlice {t e : TypeId} {k : IntKind} (ht : P.underlying t = some (.slice e)) (he : P.underlying e = some (.int k)) (hc : P.cellsOf e = 1) (bytes : Nat) (hby : P.bytesOf e = bytes) :
  OpensAs enc P W t (fun z : Option Addr × Nat × List Int => [Value.slice z.1 z.2.2.length z.2.1]) (fun z => z.2.2.length ≤ z.2.1 ∧ z.2.1 ≤ maxLen ∧ (z.1 = none → z.2.1 = 0) ∧ Row W z.1 (z.2.2.map (Value.int k)) ∧ (∀ n ∈ z.2.2, (Lit.int k n).wf = true) ∧ z.2.1 * bytes ≤ 140737488351232) := fun n cs y h hlt => by
 rcases open_ints ht he hc h with ⟨hcs, _⟩ | ⟨a, len, cap, zs, hcs, _, hl, hm, hz, hy, hcell, hwz⟩
 ·exact ⟨(none, 0, []), hcs, Nat.le_refl _, Nat.zero_le _, fun _ => rfl, Row.nil _ _, by simp, by simp⟩
 ·have hwt : cap * bytes ≤ 140737488351232 := by
   have hz : zs.length = cap := by simpa using hz
   refine hlt _ ?_
   rw [hy, DataW.weights, ht]
   refine List.mem_cons.2 (.inl ?_)
   rw [hby]
   congr 1
   simp [lits]; omega
  have hz : zs.length = cap := by simpa using hz
  have hlen : (zs.take len).length = len := by simp; omega
  refine ⟨(some a, cap, zs.take len), by rw [hcs]; simp only [hlen], by rw [hlen]; exact hl, hm, by simp, ?_, fun s hs => hwz s (List.mem_of_mem_take hs), hwt⟩
  refine row_of_cells fun i hi => ?_
  have hi' : i < len := by simp at hi; omega
  have hi2 : i < zs.length := by omega
  rw [hcell i hi2]
  simp [List.getD, hi2]
theorem opens_slice {α : Type} {f : α → List Value} {ok : α → Prop} {t e : TypeId} {k : Nat} (ht : P.underlying t = some (.slice e)) (hc : P.cellsOf e = k) (hk0 : 0 < k) (hk : ∀ x, (f x).length = k) (hel : OpensAs enc P W e f ok) :
  OpensAs enc P W t (fun z : Option Addr × Nat × List α => [Value.slice z.1 z.2.2.length z.2.1]) (fun z => z.2.2.length ≤ z.2.1 ∧ z.2.1 ≤ maxLen ∧ (z.1 = none → z.2.1 = 0) ∧ Row W z.1 (z.2.2.flatMap f) ∧ (∀ x ∈ z.2.2, ok x) ∧ z.2.1 * P.bytesOf e ≤ 140737488351232) := fun n cs y hf hlt => by
 rcases Go.Deep.open_slice ht hf with ⟨hcs, _⟩ | ⟨a, len, cap, m, n, D, Pl, hcs, _, hl, hm, hmm, hy, hx⟩
 ·exact ⟨(none, 0, []), hcs, Nat.le_refl _, Nat.zero_le _, fun _ => rfl, Row.nil _ _, by simp, by simp⟩
 ·simp only [if_true] at hmm
  subst hmm
  have hwt : m * P.bytesOf e ≤ 140737488351232 := by
   refine hlt _ ?_
   rw [hy, DataW.weights, ht]
   refine List.mem_cons.2 (.inl ?_)
   congr 1
   simp; omega
  have hwe : ∀ i, i < len → Light P e (D i) := fun i hi => by
   refine light_all (ds := (List.range len).map D) (List.mem_map.2 ⟨i, List.mem_range.2 hi, rfl⟩) (fun m' hm' => hlt m' ?_)
   rw [hy, DataW.weights, ht]
   exact List.mem_cons_of_mem _ (List.mem_append_left _ hm')
  have each : ∀ i, i < len → ∃ x, ok x ∧ W.cells? 0 (a.add (i * k)) k = some (f x) := fun i hi => by
   obtain ⟨cs', h1, h2⟩ := hx i (by omega)
   obtain ⟨x, rfl, hok⟩ := hel _ _ _ h2 (hwe i hi)
   rw [hc] at h1
   exact ⟨x, hok, h1⟩
  have build : ∀ j, j ≤ len → ∃ xs : List α, xs.length = j ∧ ∀ i (hi : i < xs.length), ok xs[i] ∧ W.cells? 0 (a.add (i * k)) k = some (f xs[i]) := by
   intro j
   induction j with
   | zero => exact fun _ => ⟨[], rfl, by simp⟩
   | succ j ih =>
    intro hj
    obtain ⟨xs, hxl, hxs⟩ := ih (by omega)
    obtain ⟨x, hok, hce⟩ := each j (by omega)
    refine ⟨xs ++ [x], by simp [hxl], fun i hi => ?_⟩
    by_cases hij : i < xs.length
    ·rw [List.getElem_append_left hij]; exact hxs i hij
    ·have : i = xs.length := by simp at hi; omega
     subst this
     rw [← hxl] at hce
     simp only [List.getElem_append_right (Nat.le_refl _), Nat.sub_self, List.getElem_singleton]
     exact ⟨hok, hce⟩
  obtain ⟨xs, hxl, hxs⟩ := build len (Nat.le_refl _)
  refine ⟨(some a, m, xs), by rw [hcs]; simp only [hxl], by rw [hxl]; exact hl, hm, by simp, ?_, fun x hxm => ?_, hwt⟩
  ·refine row_of_cells fun i hi => ?_
   simp only at hi ⊢
   rw [flat_len f k hk] at hi
   have hq : i / k < xs.length := (Nat.div_lt_iff_lt_mul hk0).2 (by rw [Nat.mul_comm]; exact hi)
   have hr := Nat.mod_lt i hk0
   have hi2 : k * (i / k) + i % k = i := Nat.div_add_mod i k
   obtain ⟨_, hlen, hcell⟩ := World.cells?_some (hxs _ hq).2
   have e1 := hcell (i % k) hr
   have e2 := flat_get f k hk xs (i / k) hq (i % k) hr
   rw [hi2] at e2
   have e3 : (a.add (i / k * k)).add (i % k) = a.add i := by rw [Go.Deep.add_add, Nat.mul_comm, hi2]
   rw [e3] at e1
   rw [e1, ← e2]
   exact List.getElem?_eq_getElem _
  ·obtain ⟨i, hi, rfl⟩ := List.getElem_of_mem hxm
   exact (hxs i hi).1
theorem param_slice {α : Type} {f : α → List Value} {ok : α → Prop} {t e : TypeId} {base : Nat} {v : Value} {d : DataW H} {ps : List MemPlace} (ht : P.underlying t = some (.slice e)) (ho : OpensAs enc P W t f ok)
  (hv : Value.okWide P W .any base t v) (h : DataW.Trod enc P W 0 (fun _ => true) true t v d ps) (hlt : Light P t d) : ∃ x, [v] = f x ∧ ok x := by
 obtain ⟨a1, len1, cap1, rfl⟩ := okWide_slice ht hv
 obtain ⟨n, hf⟩ := h
 obtain ⟨x, e, hok⟩ := ho _ _ _ hf hlt
 exact ⟨x, by simpa [Value.cells] using e, hok⟩
theorem light_param {ts : List TypeId} {ds : List (DataW H)} {j : Nat} {t : TypeId} {d : DataW H} (h : (DataW.weightsEach P ts ds).all (· ≤ reachBytes) = true) (h1 : ts[j]? = some t) (h2 : ds[j]? = some d) : Light P t d :=
 light_each h1 h2 (fun m hm => by
  have := List.all_eq_true.1 h m hm
  have h4 : m ≤ reachBytes := by simpa using this
  have h5 : reachBytes = 140737488351232 := by decide
  omega)
end
end Go.Proofs.YtabkmdhkfbcldaaGreat
namespace Go.Proofs.YtabkmdhkfbcldaaGreat
structure Cl where
 w : Int
 kind : Int
 key : ByteArray
 value : Int
 fr : Int
 to : Int
 ans : Int
 err : Int
 deriving DecidableEq
def cl0 : Cl := ⟨0, 0, .empty, 0, 0, 0, 0, 0⟩
def cAt (l : List Cl) (i : Nat) : Cl := l.getD i cl0
def aheadC (a b : Cl) : Bool := decide (a.to ≠ -1) && decide (a.to ≤ b.fr)
theorem ahead_no {a b : Cl} : aheadC a b = false ↔ (a.to ≠ -1 → b.fr < a.to) := by
 unfold aheadC
 by_cases h : a.to = -1
 ·simp [h]
 ·simp [h]
structure OneC (c : Cl) : Prop where
 w : 0 ≤ c.w ∧ c.w < 64
 k : 1 ≤ c.kind ∧ c.kind ≤ 3
 f : 0 ≤ c.fr
 t : c.to = -1 ∨ c.fr < c.to
 v : c.value = 0 ∨ c.kind = 1
 o : c.to = -1 → c.ans = 0 ∧ c.err = 0
 a : c.ans = 0 ∨ (c.kind ≠ 1 ∧ c.err = 0)
 e : c.err = 0 ∨ (c.err = 5 ∧ c.kind = 1) ∨ (c.err = 4 ∧ c.kind = 2)
theorem OneC.ended {c : Cl} (h : OneC c) (he : c.to ≠ -1) : c.fr < c.to := h.t.resolve_left he
def RT (l : List Cl) (o : List Nat) : Prop := o.Pairwise (fun i j => aheadC (cAt l j) (cAt l i) = false)
def maxI : Int := 9223372036854775807
def endOf (l : List Cl) (m : Int) (i : Nat) : Int := if (cAt l i).to ≠ -1 then min m (cAt l i).to else m
def firstOf (l : List Cl) (o : List Nat) : Int := o.foldl (endOf l) maxI
theorem endOf_le (l : List Cl) (m : Int) (i : Nat) : endOf l m i ≤ m := by
 unfold endOf
 split <;> omega
theorem foldl_le (l : List Cl) : ∀ (o : List Nat) (m : Int), o.foldl (endOf l) m ≤ m
 | [], m => Int.le_refl _
 | i :: o, m => Int.le_trans (foldl_le l o _) (endOf_le l m i)
theorem foldl_end (l : List Cl) : ∀ (o : List Nat) (m : Int) (i : Nat), i ∈ o → (cAt l i).to ≠ -1 → o.foldl (endOf l) m ≤ (cAt l i).to
 | j :: o, m, i, h, he => by
  rcases List.mem_cons.1 h with e | h
  ·subst e
   refine Int.le_trans (foldl_le l o _) ?_
   unfold endOf
   rw [if_pos he]; omega
  ·exact foldl_end l o _ i h he
theorem foldl_is (l : List Cl) : ∀ (o : List Nat) (m : Int), o.foldl (endOf l) m = m ∨ ∃ i ∈ o, (cAt l i).to ≠ -1 ∧ o.foldl (endOf l) m = (cAt l i).to
 | [], m => .inl rfl
 | j :: o, m => by
  rcases foldl_is l o (endOf l m j) with h | ⟨i, hi, he, h⟩
  ·by_cases hj : (cAt l j).to ≠ -1
   ·by_cases hm : m ≤ (cAt l j).to
    ·refine .inl ?_
     show o.foldl (endOf l) (endOf l m j) = m
     rw [h]; unfold endOf; rw [if_pos hj]; omega
    ·refine .inr ⟨j, List.mem_cons_self .., hj, ?_⟩
     show o.foldl (endOf l) (endOf l m j) = _
     rw [h]; unfold endOf; rw [if_pos hj]; omega
   ·refine .inl ?_
    show o.foldl (endOf l) (endOf l m j) = m
    rw [h]; unfold endOf; rw [if_neg hj]
  ·exact .inr ⟨i, List.mem_cons_of_mem _ hi, he, h⟩
theorem first_le (l : List Cl) (o : List Nat) (i : Nat) (h : i ∈ o) (he : (cAt l i).to ≠ -1) : firstOf l o ≤ (cAt l i).to := foldl_end l o _ i h he
structure RowG (l : List Cl) (r : List Nat) : Prop where
 rt : RT l r
 last : ∀ h : r ≠ [], (cAt l (r.getLast h)).to ≠ -1
theorem RowG.tail {l : List Cl} {i : Nat} {r : List Nat} (h : RowG l (i :: r)) : RowG l r :=
 ⟨(List.pairwise_cons.1 h.rt).2, fun hne => by have := h.last (by simp); rwa [List.getLast_cons hne] at this⟩
theorem RowG.ended {l : List Cl} {r : List Nat} (h : RowG l r) (hne : r ≠ []) : ∃ i ∈ r, (cAt l i).to ≠ -1 := ⟨_, List.getLast_mem hne, h.last hne⟩
def headOk (l : List Cl) (first : Int) (r : List Nat) : Bool := match r with | [] => false | h :: _ => decide ((cAt l h).fr < first)
def pickR (l : List Cl) (rows : List (List Nat)) : Option Nat := rows.findIdx? (headOk l (firstOf l rows.flatten))
def mergeN (l : List Cl) : Nat → List (List Nat) → List Nat
 | 0, _ => []
 | f + 1, rows => match pickR l rows with
  | none => []
  | some k => match rows.getD k [] with
   | [] => []
   | h :: t => h :: mergeN l f (rows.set k t)
theorem pick_some {l : List Cl} {rows : List (List Nat)} {k : Nat} (h : pickR l rows = some k) : ∃ hd tl, ∃ hk : k < rows.length, rows[k] = hd :: tl ∧ (cAt l hd).fr < firstOf l rows.flatten := by
 unfold pickR at h
 obtain ⟨hk, h1, _⟩ := List.findIdx?_eq_some_iff_getElem.1 h
 cases hr : rows[k] with
 | nil => rw [hr] at h1; cases h1
 | cons hd tl => rw [hr] at h1; exact ⟨hd, tl, hk, hr, by simpa [headOk] using h1⟩
theorem pick_there {l : List Cl} {rows : List (List Nat)} (hg : ∀ r ∈ rows, RowG l r) (ho : ∀ i ∈ rows.flatten, OneC (cAt l i)) (hm : ∀ i ∈ rows.flatten, (cAt l i).to ≤ maxI) (hne : rows.flatten ≠ []) : ∃ k, pickR l rows = some k := by
 cases hp : pickR l rows with
 | some k => exact ⟨k, rfl⟩
 | none =>
  exfalso
  unfold pickR at hp
  rw [List.findIdx?_eq_none_iff] at hp
  -- an ended call that is left
  obtain ⟨i0, hi0, he0⟩ : ∃ i ∈ rows.flatten, (cAt l i).to ≠ -1 := by
   obtain ⟨x, hx⟩ := List.exists_mem_of_ne_nil _ hne
   obtain ⟨r, hr, hxr⟩ := List.mem_flatten.1 hx
   obtain ⟨i, hi, he⟩ := (hg r hr).ended (List.ne_nil_of_mem hxr)
   exact ⟨i, List.mem_flatten.2 ⟨r, hr, hi⟩, he⟩
  -- the one that ends first
  obtain ⟨c, hc, hce, hcf⟩ : ∃ c ∈ rows.flatten, (cAt l c).to ≠ -1 ∧ (cAt l c).to ≤ firstOf l rows.flatten := by
   rcases foldl_is l rows.flatten maxI with h | ⟨i, hi, he, h⟩
   ·refine ⟨i0, hi0, he0, ?_⟩
    unfold firstOf
    rw [h]
    exact hm i0 hi0
   ·exact ⟨i, hi, he, by unfold firstOf; rw [h]; exact Int.le_refl _⟩
  obtain ⟨r, hr, hcr⟩ := List.mem_flatten.1 hc
  have hfc := (ho c hc).ended hce
  cases r with
  | nil => cases hcr
  | cons hd tl =>
   have h1 := hp _ hr
   have h2 : ¬ (cAt l hd).fr < firstOf l rows.flatten := by simpa [headOk] using h1
   rcases List.mem_cons.1 hcr with e | hct
   ·subst e; omega
   ·have h3 := (List.pairwise_cons.1 (hg _ hr).rt).1 c hct
    have h4 := ahead_no.1 h3 hce
    omega
theorem flatten_set {rows : List (List Nat)} {k : Nat} (hk : k < rows.length) {hd : Nat} {tl : List Nat} (h : rows[k] = hd :: tl) : rows.flatten.Perm (hd :: (rows.set k tl).flatten) := by
 have e : rows = rows.take k ++ (hd :: tl) :: rows.drop (k + 1) := by
  rw [← h, ← List.drop_eq_getElem_cons hk, List.take_append_drop]
 have e2 : rows.set k tl = rows.take k ++ tl :: rows.drop (k + 1) := by
  rw [List.set_eq_take_append_cons_drop, if_pos hk]
 rw [e2]
 conv => lhs; rw [e]
 simp only [List.flatten_append, List.flatten_cons, List.cons_append]
 exact List.perm_middle
theorem merge_ok (l : List Cl) : ∀ (f : Nat) (rows : List (List Nat)), rows.flatten.length ≤ f → (∀ r ∈ rows, RowG l r) → (∀ i ∈ rows.flatten, OneC (cAt l i)) → (∀ i ∈ rows.flatten, (cAt l i).to ≤ maxI) →
  (mergeN l f rows).Perm rows.flatten ∧ RT l (mergeN l f rows) ∧ ∀ r ∈ rows, r.Sublist (mergeN l f rows)
 | 0, rows, hf, _, _, _ => by
  have h0 : rows.flatten = [] := List.eq_nil_of_length_eq_zero (by omega)
  refine ⟨by rw [h0]; exact List.Perm.refl _, List.Pairwise.nil, fun r hr => ?_⟩
  have : r = [] := by
   apply Classical.byContradiction
   intro hne
   obtain ⟨x, hx⟩ := List.exists_mem_of_ne_nil _ hne
   have := List.mem_flatten.2 ⟨r, hr, hx⟩
   rw [h0] at this; cases this
  rw [this]; exact List.nil_sublist _
 | f + 1, rows, hf, hg, ho, hm => by
  by_cases hne : rows.flatten = []
  ·have hp : pickR l rows = none := by
    cases hp : pickR l rows with
    | none => rfl
    | some k =>
     obtain ⟨hd, tl, hk, hr, _⟩ := pick_some hp
     have : hd ∈ rows.flatten := List.mem_flatten.2 ⟨rows[k], List.getElem_mem hk, by rw [hr]; simp⟩
     rw [hne] at this; cases this
   have e : mergeN l (f + 1) rows = [] := by unfold mergeN; rw [hp]
   rw [e, hne]
   refine ⟨List.Perm.refl _, List.Pairwise.nil, fun r hr => ?_⟩
   have : r = [] := by
    apply Classical.byContradiction
    intro hn
    obtain ⟨x, hx⟩ := List.exists_mem_of_ne_nil _ hn
    have := List.mem_flatten.2 ⟨r, hr, hx⟩
    rw [hne] at this; cases this
   rw [this]; exact List.nil_sublist _
  ·obtain ⟨k, hp⟩ := pick_there hg ho hm hne
   obtain ⟨hd, tl, hk, hr, hlt⟩ := pick_some hp
   have hperm := flatten_set hk hr
   have e : mergeN l (f + 1) rows = hd :: mergeN l f (rows.set k tl) := by
    conv => lhs; unfold mergeN
    rw [hp]
    have : rows.getD k [] = hd :: tl := by simp [List.getD_eq_getElem?_getD, hk, hr]
    simp only [this]
   have hsub : ∀ i ∈ (rows.set k tl).flatten, i ∈ rows.flatten := fun i hi => hperm.mem_iff.2 (List.mem_cons_of_mem _ hi)
   have hlen := hperm.length_eq
   simp only [List.length_cons] at hlen
   obtain ⟨m1, m2, m3⟩ := merge_ok l f (rows.set k tl) (by omega) (fun r h => by
    rcases List.mem_or_eq_of_mem_set h with h | h
    ·exact hg r h
    ·rw [h]; have := hg _ (List.getElem_mem hk); rw [hr] at this; exact this.tail) (fun i hi => ho i (hsub i hi)) (fun i hi => hm i (hsub i hi))
   rw [e]
   refine ⟨(List.Perm.cons _ m1).trans hperm.symm, List.pairwise_cons.2 ⟨fun y hy => ahead_no.2 fun hye => ?_, m2⟩, fun r h => ?_⟩
   ·have hy2 := hsub y (m1.mem_iff.1 hy)
    have := first_le l rows.flatten y hy2 hye
    omega
   ·obtain ⟨j, hj, rfl⟩ := List.getElem_of_mem h
    by_cases hjk : j = k
    ·subst hjk
     rw [hr]
     refine List.Sublist.cons_cons _ (m3 tl ?_)
     have := List.getElem_mem (l := rows.set j tl) (n := j) (by simpa using hk)
     simpa using this
    ·refine List.Sublist.cons _ (m3 rows[j] ?_)
     have := List.getElem_mem (l := rows.set k tl) (n := j) (by simpa using hj)
     rwa [List.getElem_set_ne (Ne.symm hjk)] at this
end Go.Proofs.YtabkmdhkfbcldaaGreat
namespace Go.Proofs.YtabkmdhkfbcldaaGreat
def applyC (c : Cl) : Option Int → Int × Int × Option Int × Bool
 | some v => if c.kind = 1 then (0, 5, some v, true) else (v, 0, some v, true)
 | none => if c.kind = 1 then (0, 0, some c.value, true) else if c.kind = 2 then (0, 4, none, true) else (0, 0, none, false)
def stepOk (c : Cl) (st : Option Int) : Bool := (applyC c st).2.2.2 && (decide (c.to = -1) || (decide ((applyC c st).1 = c.ans) && decide ((applyC c st).2.1 = c.err)))
def runK : Option Int → List Cl → Bool
 | _, [] => true
 | st, c :: o => stepOk c st && runK (applyC c st).2.2.1 o
def setF (m : ByteArray → Option Int) (k : ByteArray) (v : Option Int) : ByteArray → Option Int := fun j => if j = k then v else m j
def stepsF : (ByteArray → Option Int) → List Cl → Bool
 | _, [] => true
 | m, c :: o => stepOk c (m c.key) && stepsF (setF m c.key (applyC c (m c.key)).2.2.1) o
def ofKey (k : ByteArray) (o : List Cl) : List Cl := o.filter (fun c => decide (c.key = k))
theorem ofKey_yes {k : ByteArray} {c : Cl} {o : List Cl} (h : c.key = k) : ofKey k (c :: o) = c :: ofKey k o := by simp [ofKey, h]
theorem ofKey_no {k : ByteArray} {c : Cl} {o : List Cl} (h : c.key ≠ k) : ofKey k (c :: o) = ofKey k o := by simp [ofKey, h]
theorem steps_keys : ∀ (o : List Cl) (m : ByteArray → Option Int), stepsF m o = true ↔ ∀ k, runK (m k) (ofKey k o) = true
 | [], m => ⟨fun _ k => rfl, fun _ => rfl⟩
 | c :: o, m => by
  have ih := steps_keys o (setF m c.key (applyC c (m c.key)).2.2.1)
  constructor
  ·intro h k
   have h : (stepOk c (m c.key) && stepsF (setF m c.key (applyC c (m c.key)).2.2.1) o) = true := h
   rw [Bool.and_eq_true] at h
   have hk := ih.1 h.2 k
   by_cases e : c.key = k
   ·rw [ofKey_yes e]
    subst e
    show (stepOk c (m c.key) && _) = true
    rw [Bool.and_eq_true]
    refine ⟨h.1, ?_⟩
    have : setF m c.key (applyC c (m c.key)).2.2.1 c.key = (applyC c (m c.key)).2.2.1 := by simp [setF]
    rwa [this] at hk
   ·rw [ofKey_no e]
    have : setF m c.key (applyC c (m c.key)).2.2.1 k = m k := by simp [setF, Ne.symm e]
    rwa [this] at hk
  ·intro h
   have h0 := h c.key
   rw [ofKey_yes rfl] at h0
   have h0 : (stepOk c (m c.key) && runK (applyC c (m c.key)).2.2.1 (ofKey c.key o)) = true := h0
   rw [Bool.and_eq_true] at h0
   show (stepOk c (m c.key) && _) = true
   rw [Bool.and_eq_true]
   refine ⟨h0.1, ih.2 fun k => ?_⟩
   by_cases e : c.key = k
   ·subst e
    have : setF m c.key (applyC c (m c.key)).2.2.1 c.key = (applyC c (m c.key)).2.2.1 := by simp [setF]
    rw [this]; exact h0.2
   ·have := h k
    rw [ofKey_no e] at this
    have e2 : setF m c.key (applyC c (m c.key)).2.2.1 k = m k := by simp [setF, Ne.symm e]
    rwa [e2]
def okDef (c : Cl) : Bool := decide (c.kind = 1) && decide (c.err = 0)
def isBef (k : ByteArray) (c : Cl) : Bool := decide (c.key = k) && decide (c.to ≠ -1) && !okDef c && decide (c.err = 4)
def isAft (k : ByteArray) (c : Cl) : Bool := decide (c.key = k) && decide (c.to ≠ -1) && !okDef c && decide (c.err ≠ 4)
def isPut (k : ByteArray) (c : Cl) : Bool := decide (c.key = k) && decide (c.to ≠ -1) && okDef c
def isMay (k : ByteArray) (c : Cl) : Bool := decide (c.key = k) && decide (c.to = -1) && decide (c.kind = 1)
theorem bef_iff {k : ByteArray} {c : Cl} (h : OneC c) : isBef k c = true ↔ c.key = k ∧ c.to ≠ -1 ∧ c.err = 4 ∧ c.kind = 2 ∧ c.ans = 0 := by
 unfold isBef okDef
 simp only [Bool.and_eq_true, decide_eq_true_eq, Bool.not_eq_true', Bool.and_eq_false_iff, decide_eq_false_iff_not]
 constructor
 ·rintro ⟨⟨⟨h1, h2⟩, h3⟩, h4⟩
  have he := h.e
  have ha := h.a
  exact ⟨h1, h2, h4, by omega, by omega⟩
 ·rintro ⟨h1, h2, h3, h4, _⟩
  exact ⟨⟨⟨h1, h2⟩, by omega⟩, h3⟩
theorem aft_iff {k : ByteArray} {c : Cl} (h : OneC c) : isAft k c = true ↔ c.key = k ∧ c.to ≠ -1 ∧ ((c.kind = 1 ∧ c.err = 5 ∧ c.ans = 0) ∨ (c.kind ≠ 1 ∧ c.err = 0)) := by
 unfold isAft okDef
 simp only [Bool.and_eq_true, decide_eq_true_eq, Bool.not_eq_true', Bool.and_eq_false_iff, decide_eq_false_iff_not]
 have he := h.e
 have ha := h.a
 constructor
 ·rintro ⟨⟨⟨h1, h2⟩, h3⟩, h4⟩
  exact ⟨h1, h2, by omega⟩
 ·rintro ⟨h1, h2, h3⟩
  exact ⟨⟨⟨h1, h2⟩, by omega⟩, by omega⟩
structure FitsC (bs as : List Cl) (p : Cl) : Prop where
 b : ∀ c ∈ bs, aheadC p c = false ∧ ∀ d ∈ as, aheadC d c = false
 a : ∀ c ∈ as, aheadC c p = false ∧ (c.kind = 1 ∨ c.ans = p.value)
theorem run_bef {k : ByteArray} : ∀ (bs o : List Cl), (∀ c ∈ bs, OneC c ∧ isBef k c = true) → runK none (bs ++ o) = runK none o
 | [], o, _ => rfl
 | c :: bs, o, h => by
  obtain ⟨h1, h2⟩ := h c (List.mem_cons_self ..)
  obtain ⟨_, h3, h4, h5, h6⟩ := (bef_iff h1).1 h2
  show (stepOk c none && runK (applyC c none).2.2.1 (bs ++ o)) = _
  have e : applyC c none = (0, 4, none, true) := by simp [applyC, h5]
  have e2 : stepOk c none = true := by unfold stepOk; rw [e]; simp [h6, h4]
  rw [e2, e, Bool.true_and]
  exact run_bef bs o (fun d hd => h d (List.mem_cons_of_mem _ hd))
theorem run_aft {k : ByteArray} {v : Int} : ∀ (as : List Cl), (∀ c ∈ as, OneC c ∧ isAft k c = true ∧ (c.kind = 1 ∨ c.ans = v)) → runK (some v) as = true
 | [], _ => rfl
 | c :: as, h => by
  obtain ⟨h1, h2, h3⟩ := h c (List.mem_cons_self ..)
  obtain ⟨_, h4, h5⟩ := (aft_iff h1).1 h2
  show (stepOk c (some v) && runK (applyC c (some v)).2.2.1 as) = true
  have ih := run_aft as (fun d hd => h d (List.mem_cons_of_mem _ hd))
  by_cases hk : c.kind = 1
  ·have e : applyC c (some v) = (0, 5, some v, true) := by simp [applyC, hk]
   have e2 : stepOk c (some v) = true := by unfold stepOk; rw [e]; simp; omega
   rw [e2, e, Bool.true_and]; exact ih
  ·have e : applyC c (some v) = (v, 0, some v, true) := by simp [applyC, hk]
   have e2 : stepOk c (some v) = true := by unfold stepOk; rw [e]; simp; omega
   rw [e2, e, Bool.true_and]; exact ih
theorem run_row {k : ByteArray} {bs as : List Cl} {p : Cl} (hb : ∀ c ∈ bs, OneC c ∧ isBef k c = true) (ha : ∀ c ∈ as, OneC c ∧ isAft k c = true) (hp : OneC p ∧ p.kind = 1 ∧ p.err = 0) (hf : FitsC bs as p) : runK none (bs ++ p :: as) = true := by
 rw [run_bef bs _ hb]
 show (stepOk p none && runK (applyC p none).2.2.1 as) = true
 have e : applyC p none = (0, 0, some p.value, true) := by simp [applyC, hp.2.1]
 have hpa := hp.1.a
 have e2 : stepOk p none = true := by unfold stepOk; rw [e]; simp; right; exact ⟨by omega, hp.2.2.symm⟩
 rw [e2, e, Bool.true_and]
 exact run_aft as (fun c hc => ⟨(ha c hc).1, (ha c hc).2, (hf.a c hc).2⟩)
end Go.Proofs.YtabkmdhkfbcldaaGreat
namespace Go.Proofs.YtabkmdhkfbcldaaGreat
structure Legal (l : List Cl) (o : List Nat) : Prop where
 nd : o.Nodup
 lt : ∀ i ∈ o, i < l.length
 all : ∀ i, i < l.length → (cAt l i).to ≠ -1 → i ∈ o
 rt : RT l o
 st : stepsF (fun _ => none) (o.map (cAt l)) = true
def idxOf (l : List Cl) (P : Cl → Bool) : List Nat := (List.range l.length).filter (fun i => P (cAt l i))
theorem mem_idx {l : List Cl} {P : Cl → Bool} {i : Nat} : i ∈ idxOf l P ↔ i < l.length ∧ P (cAt l i) = true := by simp [idxOf]
theorem idx_nodup (l : List Cl) (P : Cl → Bool) : (idxOf l P).Nodup := List.nodup_range.filter _
def ByFr (l : List Cl) (o : List Nat) : Prop := o.Pairwise (fun i j => (cAt l i).fr ≤ (cAt l j).fr)
theorem byFr_rt {l : List Cl} {o : List Nat} (h : ByFr l o) (ho : ∀ i ∈ o, OneC (cAt l i) ∧ (cAt l i).to ≠ -1) : RT l o := by
 unfold RT
 refine List.Pairwise.imp_of_mem (fun {i j} hi hj hle => ?_) h
 exact ahead_no.2 fun he => by have := (ho j hj).1.ended he; omega
inductive RowIs (l : List Cl) (k : ByteArray) (sb sa : List Nat) : List Nat → Prop where
 | none (h1 : idxOf l (isPut k) = []) (h2 : idxOf l (isAft k) = []) : RowIs l k sb sa sb
 | sure (p : Nat) (h1 : idxOf l (isPut k) = [p]) (h2 : FitsC (sb.map (cAt l)) (sa.map (cAt l)) (cAt l p)) : RowIs l k sb sa (sb ++ p :: sa)
 | may (p : Nat) (h1 : idxOf l (isPut k) = []) (h3 : idxOf l (isAft k) ≠ []) (h4 : p ∈ idxOf l (isMay k)) (h2 : FitsC (sb.map (cAt l)) (sa.map (cAt l)) (cAt l p)) : RowIs l k sb sa (sb ++ p :: sa)
structure Parts (l : List Cl) (k : ByteArray) (sb sa : List Nat) : Prop where
 b : sb.Perm (idxOf l (isBef k))
 a : sa.Perm (idxOf l (isAft k))
 fb : ByFr l sb
 fa : ByFr l sa
variable {l : List Cl} {k : ByteArray} {sb sa r : List Nat}
theorem Parts.bef (H : Parts l k sb sa) (ho : ∀ i, i < l.length → OneC (cAt l i)) : ∀ i ∈ sb, i < l.length ∧ OneC (cAt l i) ∧ isBef k (cAt l i) = true := fun i hi => by
 obtain ⟨h1, h2⟩ := mem_idx.1 (H.b.mem_iff.1 hi)
 exact ⟨h1, ho i h1, h2⟩
theorem Parts.aft (H : Parts l k sb sa) (ho : ∀ i, i < l.length → OneC (cAt l i)) : ∀ i ∈ sa, i < l.length ∧ OneC (cAt l i) ∧ isAft k (cAt l i) = true := fun i hi => by
 obtain ⟨h1, h2⟩ := mem_idx.1 (H.a.mem_iff.1 hi)
 exact ⟨h1, ho i h1, h2⟩
theorem RowIs.put (h : RowIs l k sb sa r) (ho : ∀ i, i < l.length → OneC (cAt l i)) : r = sb ∧ idxOf l (isPut k) = [] ∧ sa.length = sa.length ∧ idxOf l (isAft k) = [] ∨
  ∃ p, r = sb ++ p :: sa ∧ p < l.length ∧ OneC (cAt l p) ∧ (cAt l p).key = k ∧ (cAt l p).kind = 1 ∧ (cAt l p).err = 0 ∧ FitsC (sb.map (cAt l)) (sa.map (cAt l)) (cAt l p) ∧ (∀ i, i ∈ idxOf l (isPut k) → i = p) ∧ ((cAt l p).to = -1 → idxOf l (isAft k) ≠ []) := by
 cases h with
 | none h1 h2 => exact .inl ⟨rfl, h1, rfl, h2⟩
 | sure p h1 h2 =>
  have hp : p ∈ idxOf l (isPut k) := by rw [h1]; simp
  obtain ⟨g1, g2⟩ := mem_idx.1 hp
  unfold isPut okDef at g2
  simp only [Bool.and_eq_true, decide_eq_true_eq] at g2
  exact .inr ⟨p, rfl, g1, ho p g1, g2.1.1, g2.2.1, g2.2.2, h2, fun i hi => (by rw [h1] at hi; simpa using hi), fun e => absurd e g2.1.2⟩
 | may p h1 h3 h4 h2 =>
  obtain ⟨g1, g2⟩ := mem_idx.1 h4
  unfold isMay at g2
  simp only [Bool.and_eq_true, decide_eq_true_eq] at g2
  have := (ho p g1).o g2.1.2
  exact .inr ⟨p, rfl, g1, ho p g1, g2.1.1, g2.2, this.2, h2, fun i hi => (by rw [h1] at hi; cases hi), fun _ => h3⟩
theorem bef_end {c : Cl} (h : isBef k c = true) : c.key = k ∧ c.to ≠ -1 := by
 unfold isBef at h; simp only [Bool.and_eq_true, decide_eq_true_eq] at h; exact ⟨h.1.1.1, h.1.1.2⟩
theorem aft_end {c : Cl} (h : isAft k c = true) : c.key = k ∧ c.to ≠ -1 := by
 unfold isAft at h; simp only [Bool.and_eq_true, decide_eq_true_eq] at h; exact ⟨h.1.1.1, h.1.1.2⟩
structure RowOk (l : List Cl) (k : ByteArray) (r : List Nat) : Prop where
 g : RowG l r
 lt : ∀ i ∈ r, i < l.length ∧ (cAt l i).key = k
 nd : r.Nodup
 all : ∀ i, i < l.length → (cAt l i).key = k → (cAt l i).to ≠ -1 → i ∈ r
 st : runK none (r.map (cAt l)) = true
theorem kinds {c : Cl} (h : c.key = k) (he : c.to ≠ -1) : isBef k c = true ∨ isAft k c = true ∨ isPut k c = true := by
 unfold isBef isAft isPut
 by_cases h1 : okDef c = true
 ·simp [h, he, h1]
 ·by_cases h2 : c.err = 4
  ·simp [h, he, h1, h2]
  ·simp [h, he, h1, h2]
theorem row_ok (h : RowIs l k sb sa r) (H : Parts l k sb sa) (ho : ∀ i, i < l.length → OneC (cAt l i)) : RowOk l k r := by
 have hb := H.bef ho
 have ha := H.aft ho
 have hrb : RT l sb := byFr_rt H.fb (fun i hi => ⟨(hb i hi).2.1, (bef_end (hb i hi).2.2).2⟩)
 have hra : RT l sa := byFr_rt H.fa (fun i hi => ⟨(ha i hi).2.1, (aft_end (ha i hi).2.2).2⟩)
 have hndb : sb.Nodup := H.b.nodup_iff.2 (idx_nodup _ _)
 have hnda : sa.Nodup := H.a.nodup_iff.2 (idx_nodup _ _)
 rcases h.put ho with ⟨rfl, h1, _, h2⟩ | ⟨p, rfl, hpl, hpo, hpk, hpd, hpe, hf, hpu, hpm⟩
 ·have hsa : sa = [] := by have := H.a; rw [h2] at this; exact this.eq_nil
  refine ⟨⟨hrb, fun hne => (bef_end (hb _ (List.getLast_mem hne)).2.2).2⟩, fun i hi => ⟨(hb i hi).1, (bef_end (hb i hi).2.2).1⟩, hndb, fun i hi hk he => ?_, ?_⟩
  ·rcases kinds hk he with g | g | g
   ·exact H.b.mem_iff.2 (mem_idx.2 ⟨hi, g⟩)
   ·have := mem_idx.2 ⟨hi, g⟩; rw [h2] at this; cases this
   ·have := mem_idx.2 ⟨hi, g⟩; rw [h1] at this; cases this
  ·have := run_bef (k := k) (r.map (cAt l)) [] (fun c hc => by
    obtain ⟨i, hi, rfl⟩ := List.mem_map.1 hc
    exact (hb i hi).2)
   rw [List.append_nil] at this
   rw [this]; rfl
 ·have hpb : p ∉ sb := fun hp => by have := (bef_iff hpo).1 (hb p hp).2.2; omega
  have hpa : p ∉ sa := fun hp => by have := (aft_iff hpo).1 (ha p hp).2.2; omega
  have hdis : ∀ i ∈ sb, i ∉ sa := fun i hi hi2 => by
   have h1 := (bef_iff (hb i hi).2.1).1 (hb i hi).2.2
   have h2 := (aft_iff (hb i hi).2.1).1 (ha i hi2).2.2
   omega
  refine ⟨⟨?_, fun hne => ?_⟩, fun i hi => ?_, ?_, fun i hi hk he => ?_, ?_⟩
  ·refine List.pairwise_append.2 ⟨hrb, List.pairwise_cons.2 ⟨fun j hj => (hf.a _ (List.mem_map.2 ⟨j, hj, rfl⟩)).1, hra⟩, fun i hi j hj => ?_⟩
   have hfb := hf.b _ (List.mem_map.2 ⟨i, hi, rfl⟩)
   rcases List.mem_cons.1 hj with e | hj
   ·rw [e]; exact hfb.1
   ·exact hfb.2 _ (List.mem_map.2 ⟨j, hj, rfl⟩)
  ·by_cases hsa : sa = []
   ·subst hsa
    have e : (sb ++ [p]).getLast hne = p := by simp
    rw [e]
    intro hpo2
    exact hpm hpo2 (by have := H.a; exact this.symm.eq_nil)
   ·have e : (sb ++ p :: sa).getLast hne = sa.getLast hsa := by
     rw [List.getLast_append_of_ne_nil _ (by simp), List.getLast_cons hsa]
    rw [e]
    exact (aft_end (ha _ (List.getLast_mem hsa)).2.2).2
  ·rcases List.mem_append.1 hi with hi | hi
   ·exact ⟨(hb i hi).1, (bef_end (hb i hi).2.2).1⟩
   ·rcases List.mem_cons.1 hi with e | hi
    ·rw [e]; exact ⟨hpl, hpk⟩
    ·exact ⟨(ha i hi).1, (aft_end (ha i hi).2.2).1⟩
  ·refine List.nodup_append.2 ⟨hndb, List.nodup_cons.2 ⟨hpa, hnda⟩, fun i hi j hj e => ?_⟩
   subst e
   rcases List.mem_cons.1 hj with e | hj
   ·subst e; exact hpb hi
   ·exact hdis i hi hj
  ·rcases kinds hk he with g | g | g
   ·exact List.mem_append_left _ (H.b.mem_iff.2 (mem_idx.2 ⟨hi, g⟩))
   ·exact List.mem_append_right _ (List.mem_cons_of_mem _ (H.a.mem_iff.2 (mem_idx.2 ⟨hi, g⟩)))
   ·rw [hpu i (mem_idx.2 ⟨hi, g⟩)]; simp
  ·rw [List.map_append, List.map_cons]
   exact run_row (k := k) (fun c hc => by
    obtain ⟨i, hi, rfl⟩ := List.mem_map.1 hc
    exact (hb i hi).2) (fun c hc => by
    obtain ⟨i, hi, rfl⟩ := List.mem_map.1 hc
    exact (ha i hi).2) ⟨hpo, hpd, hpe⟩ hf
end Go.Proofs.YtabkmdhkfbcldaaGreat
