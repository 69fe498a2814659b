/-
 Frag: units in plain words, and as they lie in memory of their own.
 The cells of an element of a row (printed by gencells.py).
 The kind of a section's name, and how many bytes a relocation changes: both walks of each.
 Which lines are branches that may have to be two: both walks.
 The document's Grows.
 The code's maker as it lies; one store more.
 The code's maker: fails.
 A map's update and lookup as steps of a region held by hand.
 The code's maker: part.
-/
import Derived.Test.YthlingholhjcnaaJJ0
import Derived.Test.YthlingholhjcnaaProg
import Derived.Test.YthlingholhjcnaaShelf
import Derived.WalkLawsBesides
import Derived.WalkSpells
import Derived.IntWalk
import Derived.Lib.IndexBytes
import Derived.OwnWalk
import Derived.Deep.DeepCutAuto
import Derived.Deep.RegionHeld3
namespace Go.Proofs.Ythlingholhjcnaa
open Go.RowKit
/-! ### Plain words -/
structure Pc where
 kind : Int
 file : Int
 line : Int
 name : ByteArray
 opers : List Oc
 v : Vv
 size : Int
 b : List Int
 align : Int
def PcR.pl (x : PcR) : Pc := ⟨x.kind, x.file, x.line, x.l.name, x.l.opers.l, x.v, x.size, x.b.l, x.align⟩
structure Pt where
 name : ByteArray
 file : Int
 line : Int
 pieces : List Pc
def PtR.pl (y : PtR) : Pt := ⟨y.name, y.file, y.line, y.pieces.l.map PcR.pl⟩
structure Ft where
 file : Int
 line : Int
 err : Int
 deriving DecidableEq
def Ft.cells (f : Ft) : List Value := [.int .i64 f.file, .int .i64 f.line, .int .i64 f.err]
/-! ### Blocks by their kinds -/
def tagO : Obj → Nat
 | .cells _ T _ => T + 1
 | _ => 0
def tagAt (W : World) (b : Nat) : Option Nat := (W.heap[b]?).map tagO
variable {W W' w w' : World} {base : Nat}
theorem tag_ne {a b x y : Nat} (ha : tagAt W a = some x) (hb : tagAt W b = some y) (h : x ≠ y) : a ≠ b := fun e => by
 subst e; rw [ha] at hb; exact h (Option.some.inj hb)
theorem tag_lt {b x : Nat} (h : tagAt W b = some x) : b < W.heap.size := by
 unfold tagAt at h
 cases e : W.heap[b]? with
 | none => rw [e] at h; cases h
 | some o => exact (Array.getElem?_eq_some_iff.1 e).1
theorem tag_blk {b x : Nat} (h : tagAt W b = some x) (hk : W'.heap[b]? = W.heap[b]?) : tagAt W' b = some x := by unfold tagAt at h ⊢; rw [hk]; exact h
theorem tag_row {b : Nat} {cur : Array Value} {e : TypeId} {fz : Nat × Nat} (h : W.heap[b]? = some (.cells cur e fz)) : tagAt W b = some (e + 1) := by unfold tagAt; rw [h]; rfl
theorem own_tag {e : TypeId} {size n g : Nat} {v : Value} {xs : List Value} (h : W.ownsRow base e size v n xs) (hg : v.ownBlock = some g) : tagAt W g = some (e + 1) := by
 rcases h.2 with ⟨rfl, _⟩ | ⟨g', cap, cur, rfl, _, hh, _⟩
 ·cases hg
 ·have : g' = g := by simpa [Value.ownBlock] using hg
  subst this
  exact tag_row hh
theorem map_tag {κ β : Type} {mk : κ → Value} {mv : β → Value} {b : Nat} {m : List (κ × β)} (h : MapIs mk mv W b m) : tagAt W b = some 0 := by
 obtain ⟨es, c, hb, _⟩ := h
 unfold tagAt; rw [hb]; rfl
theorem own_blk {e : TypeId} {size n : Nat} {v : Value} {xs : List Value} (h : w.ownsRow base e size v n xs) (hk : ∀ g, v.ownBlock = some g → w'.heap[g]? = w.heap[g]?) : w'.ownsRow base e size v n xs := by
 refine ⟨h.1, ?_⟩
 rcases h.2 with hn' | ⟨g, cap, cur, rfl, hge, hg, rest⟩
 ·exact .inl hn'
 ·exact .inr ⟨g, cap, cur, rfl, hge, (hk g rfl).trans hg, rest⟩
theorem row_blk {p : Option Addr} {cs : List Value} (h : Row W p cs) (hk : ∀ q, p = some q → W'.heap[q.block]? = W.heap[q.block]?) : Row W' p cs := by
 intro hne
 obtain ⟨b, o, rfl, hc⟩ := h hne
 exact ⟨b, o, rfl, fun i hi => (World.cell?_of_block (a := ⟨b, o + i, none⟩) (hk ⟨b, o, none⟩ rfl)).trans (hc i hi)⟩
theorem grown_undrew {w w1 : World} {row : Option Nat} (h : w.drew.grownBy w1 row) : w.grownBy w1 row := by
 obtain ⟨a, b, c, d, e⟩ := h
 exact ⟨a, b, c, d, e⟩
structure Lies (base : Nat) (P : Nat → Prop) (W W' : World) : Prop where
 tag : ∀ b x, tagAt W b = some x → P x → W'.heap[b]? = W.heap[b]?
 low : ∀ b, b < base → W'.heap[b]? = W.heap[b]?
 size : W.heap.size ≤ W'.heap.size
theorem Lies.refl (base : Nat) (P : Nat → Prop) (W : World) : Lies base P W W := ⟨fun _ _ _ _ => rfl, fun _ _ => rfl, Nat.le_refl _⟩
theorem Lies.trans {P : Nat → Prop} {W1 W2 W3 : World} (h : Lies base P W1 W2) (h2 : Lies base P W2 W3) : Lies base P W1 W3 :=
 ⟨fun b x hb hp => (h2.tag b x (tag_blk hb (h.tag b x hb hp)) hp).trans (h.tag b x hb hp), fun b hb => (h2.low b hb).trans (h.low b hb), Nat.le_trans h.size h2.size⟩
theorem Lies.mono {P Q : Nat → Prop} (h : Lies base P W W') (hq : ∀ x, Q x → P x) : Lies base Q W W' := ⟨fun b x hb hx => h.tag b x hb (hq x hx), h.low, h.size⟩
theorem Lies.below (P : Nat → Prop) (hb : Below W.heap.size W W') (hz : base ≤ W.heap.size) : Lies base P W W' := ⟨fun b x ht _ => hb.block b (tag_lt ht), fun b h => hb.block b (by omega), hb.size⟩
theorem Lies.grown {P : Nat → Prop} {row : Option Nat} {x : Nat} (hg : W.grownBy W' row) (hr : ∀ g, row = some g → tagAt W g = some x ∧ base ≤ g) (hx : ¬ P x) (hz : base ≤ W.heap.size) : Lies base P W W' :=
 ⟨fun b y hb hy => hg.block b (tag_lt hb) (fun e => by have h1 := (hr b e.symm).1; rw [hb] at h1; cases h1; exact hx hy), fun b hb => hg.block b (by omega) (fun e => by have h1 := (hr b e.symm).2; omega), hg.size⟩
theorem Lies.own {P : Nat → Prop} {e : TypeId} {size n : Nat} {v : Value} {xs : List Value} (h : Lies base P W W') (ho : W.ownsRow base e size v n xs) (hp : P (e + 1)) : W'.ownsRow base e size v n xs := own_blk ho (fun g hg => h.tag g _ (own_tag ho hg) hp)
theorem grown_set (w : World) (a : Addr) (v : Value) : w.grownBy (w.setCell a v) (some a.block) :=
 ⟨rfl, rfl, rfl, by simp, fun k _ hk => heap_setCell_other _ _ _ _ (fun e => hk (by rw [e]))⟩
/-! ### Units of their own -/
def isOB (x : Nat) : Prop := x = 72 + 1 ∨ x = 5 + 1
structure PcOk (W : World) (base : Nat) (x : PcR) : Prop where
 op : SlOk W Oc.cells 120 x.l.opers
 opl : ∀ a, x.l.opers.p = some a → a.block < base ∨ tagAt W a.block = some (72 + 1)
 b : SlOk W (fun n : Int => [Value.int .u8 n]) 1 x.b
 bl : ∀ a, x.b.p = some a → a.block < base ∨ tagAt W a.block = some (5 + 1)
theorem PcOk.lies {x : PcR} (h : PcOk W base x) (hl : Lies base isOB W W') : PcOk W' base x := by
 have k1 : ∀ a, x.l.opers.p = some a → W'.heap[a.block]? = W.heap[a.block]? := fun a ha => (h.opl a ha).elim (hl.low _) (fun ht => hl.tag _ _ ht (.inl rfl))
 have k2 : ∀ a, x.b.p = some a → W'.heap[a.block]? = W.heap[a.block]? := fun a ha => (h.bl a ha).elim (hl.low _) (fun ht => hl.tag _ _ ht (.inr rfl))
 exact ⟨⟨row_blk h.op.row k1, h.op.len, h.op.cap, h.op.nil⟩, fun a ha => (h.opl a ha).imp id (fun ht => tag_blk ht (k1 a ha)), ⟨row_blk h.b.row k2, h.b.len, h.b.cap, h.b.nil⟩, fun a ha => (h.bl a ha).imp id (fun ht => tag_blk ht (k2 a ha))⟩
structure FV where
 pv : Value
 mv : Value
 gv : Value
 fv : Value
 ps : List PtR
 ms : List Mk
 gs : List Td
 fs : List Ft
def own3 (x : Nat) : Prop := x = 50 + 1 ∨ x = 64 + 1 ∨ x = 81 + 1 ∨ x = 90 + 1 ∨ x = 42 + 1
structure FIs (W : World) (base : Nat) (X : FV) : Prop where
 parts : W.ownsRow base 50 4 X.pv X.ps.length (X.ps.flatMap PtR.cells)
 pcs : ∀ (i : Nat) (y : PtR), X.ps[i]? = some y → W.ownsRow base 64 11 y.pieces.val y.pieces.l.length (y.pieces.l.flatMap PcR.cells)
 apart : ∀ (i j : Nat) (y z : PtR), i ≠ j → X.ps[i]? = some y → X.ps[j]? = some z → Apart y.pieces.val z.pieces.val
 pok : ∀ y ∈ X.ps, ∀ x ∈ y.pieces.l, PcOk W base x
 marks : W.ownsRow base 81 9 X.mv X.ms.length (X.ms.flatMap Mk.cells)
 globals : W.ownsRow base 90 3 X.gv X.gs.length (X.gs.flatMap Td.cells)
 faults : W.ownsRow base 42 3 X.fv X.fs.length (X.fs.flatMap Ft.cells)
def nil0 : FV := ⟨.slice none 0 0, .slice none 0 0, .slice none 0 0, .slice none 0 0, [], [], [], []⟩
theorem FIs.nil (W : World) (base : Nat) : FIs W base nil0 :=
 ⟨World.ownsRow_nil _ _ _ _, fun i y h => (by simp [nil0] at h), fun i j y z _ h => (by simp [nil0] at h), fun y h => (by simp [nil0] at h), World.ownsRow_nil _ _ _ _, World.ownsRow_nil _ _ _ _, World.ownsRow_nil _ _ _ _⟩
variable {X : FV}
theorem FIs.lies (h : FIs W base X) (hl : Lies base (fun x => own3 x ∨ isOB x) W W') : FIs W' base X :=
 ⟨hl.own h.parts (.inl (.inl rfl)), fun i y hy => hl.own (h.pcs i y hy) (.inl (.inr (.inl rfl))), h.apart, fun y hy x hx => (h.pok y hy x hx).lies (hl.mono fun _ h => .inr h),
  hl.own h.marks (.inl (.inr (.inr (.inl rfl)))), hl.own h.globals (.inl (.inr (.inr (.inr (.inl rfl))))), hl.own h.faults (.inl (.inr (.inr (.inr (.inr rfl)))))⟩
theorem flat_snoc {α : Type} (f : α → List Value) (l : List α) (x : α) : (l ++ [x]).flatMap f = l.flatMap f ++ f x := by simp
theorem FIs.addMark (h : FIs W base X) (hz : base ≤ W.heap.size) {v' : Value} (k : Mk) (ho : W'.ownsRow base 81 9 v' (X.ms.length + 1) (X.ms.flatMap Mk.cells ++ k.cells)) (hg : W.grownBy W' X.mv.ownBlock) : FIs W' base { X with mv := v', ms := X.ms ++ [k] } := by
 have hl : Lies base (fun x => x ≠ 81 + 1) W W' := Lies.grown hg (fun g hgg => ⟨own_tag h.marks hgg, own_ge h.marks g hgg⟩) (fun hn => hn rfl) hz
 refine ⟨hl.own h.parts (by decide), fun i y hy => hl.own (h.pcs i y hy) (by decide), h.apart, fun y hy x hx => (h.pok y hy x hx).lies (hl.mono ?_), ?_, hl.own h.globals (by decide), hl.own h.faults (by decide)⟩
 ·rintro x (rfl | rfl) <;> decide
 ·show W'.ownsRow base 81 9 v' (X.ms ++ [k]).length ((X.ms ++ [k]).flatMap Mk.cells)
  rw [flat_snoc, List.length_append]; exact ho
theorem FIs.addTold (h : FIs W base X) (hz : base ≤ W.heap.size) {v' : Value} (k : Td) (ho : W'.ownsRow base 90 3 v' (X.gs.length + 1) (X.gs.flatMap Td.cells ++ k.cells)) (hg : W.grownBy W' X.gv.ownBlock) : FIs W' base { X with gv := v', gs := X.gs ++ [k] } := by
 have hl : Lies base (fun x => x ≠ 90 + 1) W W' := Lies.grown hg (fun g hgg => ⟨own_tag h.globals hgg, own_ge h.globals g hgg⟩) (fun hn => hn rfl) hz
 refine ⟨hl.own h.parts (by decide), fun i y hy => hl.own (h.pcs i y hy) (by decide), h.apart, fun y hy x hx => (h.pok y hy x hx).lies (hl.mono ?_), hl.own h.marks (by decide), ?_, hl.own h.faults (by decide)⟩
 ·rintro x (rfl | rfl) <;> decide
 ·show W'.ownsRow base 90 3 v' (X.gs ++ [k]).length ((X.gs ++ [k]).flatMap Td.cells)
  rw [flat_snoc, List.length_append]; exact ho
theorem FIs.addFault (h : FIs W base X) (hz : base ≤ W.heap.size) {v' : Value} (k : Ft) (ho : W'.ownsRow base 42 3 v' (X.fs.length + 1) (X.fs.flatMap Ft.cells ++ k.cells)) (hg : W.grownBy W' X.fv.ownBlock) : FIs W' base { X with fv := v', fs := X.fs ++ [k] } := by
 have hl : Lies base (fun x => x ≠ 42 + 1) W W' := Lies.grown hg (fun g hgg => ⟨own_tag h.faults hgg, own_ge h.faults g hgg⟩) (fun hn => hn rfl) hz
 refine ⟨hl.own h.parts (by decide), fun i y hy => hl.own (h.pcs i y hy) (by decide), h.apart, fun y hy x hx => (h.pok y hy x hx).lies (hl.mono ?_), hl.own h.marks (by decide), hl.own h.globals (by decide), ?_⟩
 ·rintro x (rfl | rfl) <;> decide
 ·show W'.ownsRow base 42 3 v' (X.fs ++ [k]).length ((X.fs ++ [k]).flatMap Ft.cells)
  rw [flat_snoc, List.length_append]; exact ho
theorem get_snoc {α : Type} {l : List α} {x y : α} {i : Nat} (h : (l ++ [x])[i]? = some y) : l[i]? = some y ∧ i < l.length ∨ i = l.length ∧ y = x := by
 rcases Nat.lt_trichotomy i l.length with g | g | g
 ·rw [List.getElem?_append_left g] at h; exact .inl ⟨h, g⟩
 ·subst g
  rw [List.getElem?_append_right (Nat.le_refl _), Nat.sub_self] at h
  cases h; exact .inr ⟨rfl, rfl⟩
 ·rw [List.getElem?_append_right (by omega), List.getElem?_eq_none (by simp; omega)] at h; cases h
theorem FIs.addPart (h : FIs W base X) (hz : base ≤ W.heap.size) {v' : Value} (y : PtR) (hy0 : y.pieces = ⟨none, 0, []⟩) (ho : W'.ownsRow base 50 4 v' (X.ps.length + 1) (X.ps.flatMap PtR.cells ++ y.cells)) (hg : W.grownBy W' X.pv.ownBlock) : FIs W' base { X with pv := v', ps := X.ps ++ [y] } := by
 have hl : Lies base (fun x => x ≠ 50 + 1) W W' := Lies.grown hg (fun g hgg => ⟨own_tag h.parts hgg, own_ge h.parts g hgg⟩) (fun hn => hn rfl) hz
 have hnil : y.pieces.val.ownBlock = none := by rw [hy0]; rfl
 refine ⟨?_, fun i z hi => ?_, fun i j a b hij hi hj => ?_, fun z hz2 x hx => ?_, hl.own h.marks (by decide), hl.own h.globals (by decide), hl.own h.faults (by decide)⟩
 ·show W'.ownsRow base 50 4 v' (X.ps ++ [y]).length ((X.ps ++ [y]).flatMap PtR.cells)
  rw [flat_snoc, List.length_append]; exact ho
 ·rcases get_snoc hi with ⟨h1, _⟩ | ⟨_, rfl⟩
  ·exact hl.own (h.pcs i z h1) (by decide)
  ·rw [hy0]; exact World.ownsRow_nil _ _ _ _
 ·rcases get_snoc hi with ⟨h1, _⟩ | ⟨_, rfl⟩
  ·rcases get_snoc hj with ⟨h2, _⟩ | ⟨_, rfl⟩
   ·exact h.apart i j a b hij h1 h2
   ·intro g hgg e; rw [hnil] at e; cases e
  ·intro g hgg; rw [hnil] at hgg; cases hgg
 ·rcases List.mem_append.1 hz2 with h1 | h1
  ·exact (h.pok z h1 x hx).lies (hl.mono (by rintro x (rfl | rfl) <;> decide))
  ·rw [List.mem_singleton.1 h1, hy0] at hx; cases hx
theorem flat_set {α : Type} (f : α → List Value) (k : Nat) (hk : ∀ x, (f x).length = k) : ∀ (l : List α) (i : Nat) (hi : i < l.length) (j : Nat) (v : Value) (y : α), j < k → f y = (f l[i]).set j v → (l.flatMap f).set (i * k + j) v = (l.set i y).flatMap f
 | x :: l, 0, _, j, v, y, hj, hy => by
  rw [List.flatMap_cons, Nat.zero_mul, Nat.zero_add, List.set_append_left _ _ (by rw [hk]; exact hj), List.set_cons_zero, List.flatMap_cons, hy]; rfl
 | x :: l, i + 1, hi, j, v, y, hj, hy => by
  rw [List.flatMap_cons, List.set_append_right _ _ (by rw [hk, Nat.add_mul]; omega), hk, List.set_cons_succ, List.flatMap_cons, show (i + 1) * k + j - k = i * k + j from by rw [Nat.add_mul]; omega, flat_set f k hk l i (by simpa using hi) j v y hj hy]
theorem FIs.addPiece (h : FIs W base X) (hz : base ≤ W.heap.size) {i : Nat} {y : PtR} (hi : X.ps[i]? = some y) {g c : Nat} (hpv : X.pv = .slice (some ⟨g, 0, none⟩) X.ps.length c) {p' : Option Addr} {c' : Nat} (x : PcR)
  (ho : W'.ownsRow base 64 11 (.slice p' (y.pieces.l.length + 1) c') (y.pieces.l.length + 1) (y.pieces.l.flatMap PcR.cells ++ x.cells)) (hg : W.grownBy W' y.pieces.val.ownBlock) (hs : Stayed W y.pieces.val (.slice p' (y.pieces.l.length + 1) c')) (hx : PcOk W base x) :
  FIs (W'.setCell ⟨g, i * 4 + 3, none⟩ (.slice p' (y.pieces.l.length + 1) c')) base { X with ps := X.ps.set i { y with pieces := ⟨p', c', y.pieces.l ++ [x]⟩ } } := by
 have hil := (List.getElem?_eq_some_iff.1 hi).1
 have hig := (List.getElem?_eq_some_iff.1 hi).2
 have hyo := h.pcs i y hi
 have hl : Lies base (fun x => x ≠ 64 + 1) W W' := Lies.grown hg (fun g hgg => ⟨own_tag hyo hgg, own_ge hyo g hgg⟩) (fun hn => hn rfl) hz
 have hpo := hl.own h.parts (by decide)
 rw [hpv] at hpo
 have htg : tagAt W' g = some (50 + 1) := own_tag hpo rfl
 have hge : base ≤ g := own_ge hpo g rfl
 have hl2 : Lies base (fun x => x ≠ 50 + 1) W' (W'.setCell ⟨g, i * 4 + 3, none⟩ (.slice p' (y.pieces.l.length + 1) c')) := Lies.grown (grown_set _ _ _) (fun b hb => by cases hb; exact ⟨htg, hge⟩) (fun hn => hn rfl) (Nat.le_trans hz hl.size)
 have hlp : Lies base isOB W (W'.setCell ⟨g, i * 4 + 3, none⟩ (.slice p' (y.pieces.l.length + 1) c')) := (hl.mono (by rintro x (rfl | rfl) <;> decide)).trans (hl2.mono (by rintro x (rfl | rfl) <;> decide))
 have hset : ∀ j z, (X.ps.set i { y with pieces := ⟨p', c', y.pieces.l ++ [x]⟩ })[j]? = some z → (j = i ∧ z = { y with pieces := ⟨p', c', y.pieces.l ++ [x]⟩ }) ∨ (j ≠ i ∧ X.ps[j]? = some z) := fun j z hj => by
  by_cases e : i = j
  ·subst e; rw [List.getElem?_set_self hil] at hj; cases hj; exact .inl ⟨rfl, rfl⟩
  ·rw [List.getElem?_set_ne e] at hj; exact .inr ⟨fun e2 => e e2.symm, hj⟩
 have hnew : (⟨p', c', y.pieces.l ++ [x]⟩ : Sl PcR).val = .slice p' (y.pieces.l.length + 1) c' := by show Value.slice _ (y.pieces.l ++ [x]).length _ = _; rw [List.length_append]; rfl
 have hap : ∀ j z, j ≠ i → X.ps[j]? = some z → Apart (.slice p' (y.pieces.l.length + 1) c') z.pieces.val := fun j z hji hj =>
  Apart.stayed (h.apart i j y z (Ne.symm hji) hi hj) hs (own_lt (h.pcs j z hj))
 refine ⟨?_, fun j z hj => ?_, fun j k a b hjk hj hk => ?_, fun z hz2 q hq => ?_, hl2.own (hl.own h.marks (by decide)) (by decide), hl2.own (hl.own h.globals (by decide)) (by decide), hl2.own (hl.own h.faults (by decide)) (by decide)⟩
 ·have h4 := own_set hpo (i * 4 + 3) (.slice p' (y.pieces.l.length + 1) c')
  show (W'.setCell _ _).ownsRow base 50 4 X.pv (X.ps.set i _).length ((X.ps.set i _).flatMap PtR.cells)
  rw [List.length_set, hpv, ← flat_set PtR.cells 4 (fun _ => rfl) X.ps i hil 3 (.slice p' (y.pieces.l.length + 1) c') { y with pieces := ⟨p', c', y.pieces.l ++ [x]⟩ } (by decide) (by rw [hig]; show [_, _, _, _] = [_, _, _, _]; rw [hnew])]
  exact h4
 ·rcases hset j z hj with ⟨rfl, rfl⟩ | ⟨hji, hj2⟩
  ·show (W'.setCell _ _).ownsRow base 64 11 (⟨p', c', y.pieces.l ++ [x]⟩ : Sl PcR).val (y.pieces.l ++ [x]).length ((y.pieces.l ++ [x]).flatMap PcR.cells)
   rw [hnew, flat_snoc, List.length_append]
   exact hl2.own ho (by decide)
  ·refine hl2.own ?_ (by decide)
   refine own_blk (h.pcs j z hj2) (fun b hb => hg.block b (own_lt (h.pcs j z hj2) b hb) (fun e => ?_))
   exact h.apart i j y z (Ne.symm hji) hi hj2 b e.symm hb
 ·rcases hset j a hj with ⟨rfl, rfl⟩ | ⟨hji, hj2⟩
  ·rcases hset k b hk with ⟨rfl, _⟩ | ⟨hki, hk2⟩
   ·exact absurd rfl hjk
   ·show Apart (⟨p', c', y.pieces.l ++ [x]⟩ : Sl PcR).val _
    rw [hnew]; exact hap k b hki hk2
  ·rcases hset k b hk with ⟨rfl, rfl⟩ | ⟨hki, hk2⟩
   ·show Apart _ (⟨p', c', y.pieces.l ++ [x]⟩ : Sl PcR).val
    rw [hnew]; exact (hap j a hji hj2).symm
   ·exact h.apart j k a b hjk hj2 hk2
 ·obtain ⟨j, hj⟩ := List.getElem?_of_mem hz2
  rcases hset j z hj with ⟨rfl, rfl⟩ | ⟨hji, hj2⟩
  ·have hq : q ∈ y.pieces.l ++ [x] := hq
   rcases List.mem_append.1 hq with h1 | h1
   ·exact (h.pok y (List.mem_of_getElem? hi) q h1).lies hlp
   ·rw [List.mem_singleton.1 h1]; exact hx.lies hlp
  ·exact (h.pok z (List.mem_of_getElem? hj2) q hq).lies hlp
end Go.Proofs.Ythlingholhjcnaa
namespace Go.Proofs.Ythlingholhjcnaa
open Go.RowKit
variable {w : World} {b o : Nat}
theorem row_cells {α : Type} (f : α → List Value) (k : Nat) (hk : ∀ x, (f x).length = k) {l : List α} (h : Row w (some ⟨b, o, none⟩) (l.flatMap f)) (i : Nat) (hi : i < l.length) (j : Nat) (hj : j < k) : w.cell? ⟨b, o + i * k + j, none⟩ = (f l[i])[j]? := by
 have hl := flat_len f k hk l
 have h1 : k * i + j < (l.flatMap f).length := by
  rw [hl]
  have : k * (i + 1) ≤ k * l.length := Nat.mul_le_mul_left k hi
  rw [Nat.mul_add] at this
  have e : l.length * k = k * l.length := Nat.mul_comm _ _
  omega
 have h2 := h.cell (k * i + j) h1
 have h3 := flat_get f k hk l i hi j hj
 rw [List.getElem?_eq_getElem h1] at h3
 rw [show o + i * k + j = o + (k * i + j) from by rw [Nat.mul_comm i k]; omega, h2, ← h3]
theorem vv_cells {ys : List Vv} (h : Row w (some ⟨b, o, none⟩) (ys.flatMap Vv.cells)) (k : Nat) (hk : k < ys.length) :
  w.cell? ⟨b, o + k * 3, none⟩ = some (.int .i64 ys[k].add) ∧
  w.cell? ⟨b, o + k * 3 + 1, none⟩ = some (.string ys[k].plus) ∧
  w.cell? ⟨b, o + k * 3 + 2, none⟩ = some (.string ys[k].minus) :=
 ⟨row_cells Vv.cells 3 (fun _ => rfl) h k hk 0 (by decide), row_cells Vv.cells 3 (fun _ => rfl) h k hk 1 (by decide), row_cells Vv.cells 3 (fun _ => rfl) h k hk 2 (by decide)⟩
theorem oc_cells {ys : List Oc} (h : Row w (some ⟨b, o, none⟩) (ys.flatMap Oc.cells)) (k : Nat) (hk : k < ys.length) :
  w.cell? ⟨b, o + k * 15, none⟩ = some (.int .i64 ys[k].kind) ∧
  w.cell? ⟨b, o + k * 15 + 1, none⟩ = some (.int .i64 ys[k].r.n) ∧
  w.cell? ⟨b, o + k * 15 + 2, none⟩ = some (.bool ys[k].r.x) ∧
  w.cell? ⟨b, o + k * 15 + 3, none⟩ = some (.bool ys[k].r.sp) ∧
  w.cell? ⟨b, o + k * 15 + 4, none⟩ = some (.int .i64 ys[k].m.n) ∧
  w.cell? ⟨b, o + k * 15 + 5, none⟩ = some (.bool ys[k].m.x) ∧
  w.cell? ⟨b, o + k * 15 + 6, none⟩ = some (.bool ys[k].m.sp) ∧
  w.cell? ⟨b, o + k * 15 + 7, none⟩ = some (.int .i64 ys[k].mod) ∧
  w.cell? ⟨b, o + k * 15 + 8, none⟩ = some (.int .i64 ys[k].amt) ∧
  w.cell? ⟨b, o + k * 15 + 9, none⟩ = some (.int .i64 ys[k].n) ∧
  w.cell? ⟨b, o + k * 15 + 10, none⟩ = some (.int .i64 ys[k].v.add) ∧
  w.cell? ⟨b, o + k * 15 + 11, none⟩ = some (.string ys[k].v.plus) ∧
  w.cell? ⟨b, o + k * 15 + 12, none⟩ = some (.string ys[k].v.minus) ∧
  w.cell? ⟨b, o + k * 15 + 13, none⟩ = some (.bool ys[k].lo) ∧
  w.cell? ⟨b, o + k * 15 + 14, none⟩ = some (.int .i64 ys[k].mode) :=
 ⟨row_cells Oc.cells 15 (fun _ => rfl) h k hk 0 (by decide), row_cells Oc.cells 15 (fun _ => rfl) h k hk 1 (by decide), row_cells Oc.cells 15 (fun _ => rfl) h k hk 2 (by decide), row_cells Oc.cells 15 (fun _ => rfl) h k hk 3 (by decide), row_cells Oc.cells 15 (fun _ => rfl) h k hk 4 (by decide), row_cells Oc.cells 15 (fun _ => rfl) h k hk 5 (by decide), row_cells Oc.cells 15 (fun _ => rfl) h k hk 6 (by decide), row_cells Oc.cells 15 (fun _ => rfl) h k hk 7 (by decide), row_cells Oc.cells 15 (fun _ => rfl) h k hk 8 (by decide), row_cells Oc.cells 15 (fun _ => rfl) h k hk 9 (by decide), row_cells Oc.cells 15 (fun _ => rfl) h k hk 10 (by decide), row_cells Oc.cells 15 (fun _ => rfl) h k hk 11 (by decide), row_cells Oc.cells 15 (fun _ => rfl) h k hk 12 (by decide), row_cells Oc.cells 15 (fun _ => rfl) h k hk 13 (by decide), row_cells Oc.cells 15 (fun _ => rfl) h k hk 14 (by decide)⟩
theorem oc_ones (x : Oc) : ∀ u ∈ x.cells, u.oneCell' = true := fun u hu => by
 simp [Oc.cells, Sl.val] at hu
 rcases hu with rfl | rfl | rfl | rfl | rfl | rfl | rfl | rfl | rfl | rfl | rfl | rfl | rfl | rfl | rfl <;> rfl
theorem rwr_cells {ys : List RwR} (h : Row w (some ⟨b, o, none⟩) (ys.flatMap RwR.cells)) (k : Nat) (hk : k < ys.length) :
  w.cell? ⟨b, o + k * 9, none⟩ = some (.int .i64 ys[k].line) ∧
  w.cell? ⟨b, o + k * 9 + 1, none⟩ = some (ys[k].s.labels.val) ∧
  w.cell? ⟨b, o + k * 9 + 2, none⟩ = some (.int .i64 ys[k].s.kind) ∧
  w.cell? ⟨b, o + k * 9 + 3, none⟩ = some (.string ys[k].s.l.name) ∧
  w.cell? ⟨b, o + k * 9 + 4, none⟩ = some (ys[k].s.l.opers.val) ∧
  w.cell? ⟨b, o + k * 9 + 5, none⟩ = some (ys[k].s.names.val) ∧
  w.cell? ⟨b, o + k * 9 + 6, none⟩ = some (.int .i64 ys[k].s.size) ∧
  w.cell? ⟨b, o + k * 9 + 7, none⟩ = some (ys[k].s.values.val) ∧
  w.cell? ⟨b, o + k * 9 + 8, none⟩ = some (ys[k].s.bytes.val) :=
 ⟨row_cells RwR.cells 9 (fun _ => rfl) h k hk 0 (by decide), row_cells RwR.cells 9 (fun _ => rfl) h k hk 1 (by decide), row_cells RwR.cells 9 (fun _ => rfl) h k hk 2 (by decide), row_cells RwR.cells 9 (fun _ => rfl) h k hk 3 (by decide), row_cells RwR.cells 9 (fun _ => rfl) h k hk 4 (by decide), row_cells RwR.cells 9 (fun _ => rfl) h k hk 5 (by decide), row_cells RwR.cells 9 (fun _ => rfl) h k hk 6 (by decide), row_cells RwR.cells 9 (fun _ => rfl) h k hk 7 (by decide), row_cells RwR.cells 9 (fun _ => rfl) h k hk 8 (by decide)⟩
theorem pcr_cells {ys : List PcR} (h : Row w (some ⟨b, o, none⟩) (ys.flatMap PcR.cells)) (k : Nat) (hk : k < ys.length) :
  w.cell? ⟨b, o + k * 11, none⟩ = some (.int .i64 ys[k].kind) ∧
  w.cell? ⟨b, o + k * 11 + 1, none⟩ = some (.int .i64 ys[k].file) ∧
  w.cell? ⟨b, o + k * 11 + 2, none⟩ = some (.int .i64 ys[k].line) ∧
  w.cell? ⟨b, o + k * 11 + 3, none⟩ = some (.string ys[k].l.name) ∧
  w.cell? ⟨b, o + k * 11 + 4, none⟩ = some (ys[k].l.opers.val) ∧
  w.cell? ⟨b, o + k * 11 + 5, none⟩ = some (.int .i64 ys[k].v.add) ∧
  w.cell? ⟨b, o + k * 11 + 6, none⟩ = some (.string ys[k].v.plus) ∧
  w.cell? ⟨b, o + k * 11 + 7, none⟩ = some (.string ys[k].v.minus) ∧
  w.cell? ⟨b, o + k * 11 + 8, none⟩ = some (.int .i64 ys[k].size) ∧
  w.cell? ⟨b, o + k * 11 + 9, none⟩ = some (ys[k].b.val) ∧
  w.cell? ⟨b, o + k * 11 + 10, none⟩ = some (.int .i64 ys[k].align) :=
 ⟨row_cells PcR.cells 11 (fun _ => rfl) h k hk 0 (by decide), row_cells PcR.cells 11 (fun _ => rfl) h k hk 1 (by decide), row_cells PcR.cells 11 (fun _ => rfl) h k hk 2 (by decide), row_cells PcR.cells 11 (fun _ => rfl) h k hk 3 (by decide), row_cells PcR.cells 11 (fun _ => rfl) h k hk 4 (by decide), row_cells PcR.cells 11 (fun _ => rfl) h k hk 5 (by decide), row_cells PcR.cells 11 (fun _ => rfl) h k hk 6 (by decide), row_cells PcR.cells 11 (fun _ => rfl) h k hk 7 (by decide), row_cells PcR.cells 11 (fun _ => rfl) h k hk 8 (by decide), row_cells PcR.cells 11 (fun _ => rfl) h k hk 9 (by decide), row_cells PcR.cells 11 (fun _ => rfl) h k hk 10 (by decide)⟩
theorem pcr_ones (x : PcR) : ∀ u ∈ x.cells, u.oneCell' = true := fun u hu => by
 simp [PcR.cells, Sl.val] at hu
 rcases hu with rfl | rfl | rfl | rfl | rfl | rfl | rfl | rfl | rfl | rfl | rfl <;> rfl
theorem ptr_cells {ys : List PtR} (h : Row w (some ⟨b, o, none⟩) (ys.flatMap PtR.cells)) (k : Nat) (hk : k < ys.length) :
  w.cell? ⟨b, o + k * 4, none⟩ = some (.string ys[k].name) ∧
  w.cell? ⟨b, o + k * 4 + 1, none⟩ = some (.int .i64 ys[k].file) ∧
  w.cell? ⟨b, o + k * 4 + 2, none⟩ = some (.int .i64 ys[k].line) ∧
  w.cell? ⟨b, o + k * 4 + 3, none⟩ = some (ys[k].pieces.val) :=
 ⟨row_cells PtR.cells 4 (fun _ => rfl) h k hk 0 (by decide), row_cells PtR.cells 4 (fun _ => rfl) h k hk 1 (by decide), row_cells PtR.cells 4 (fun _ => rfl) h k hk 2 (by decide), row_cells PtR.cells 4 (fun _ => rfl) h k hk 3 (by decide)⟩
theorem ptr_ones (x : PtR) : ∀ u ∈ x.cells, u.oneCell' = true := fun u hu => by
 simp [PtR.cells, Sl.val] at hu
 rcases hu with rfl | rfl | rfl | rfl <;> rfl
theorem mk_cells {ys : List Mk} (h : Row w (some ⟨b, o, none⟩) (ys.flatMap Mk.cells)) (k : Nat) (hk : k < ys.length) :
  w.cell? ⟨b, o + k * 9, none⟩ = some (.string ys[k].name) ∧
  w.cell? ⟨b, o + k * 9 + 1, none⟩ = some (.int .i64 ys[k].file) ∧
  w.cell? ⟨b, o + k * 9 + 2, none⟩ = some (.int .i64 ys[k].line) ∧
  w.cell? ⟨b, o + k * 9 + 3, none⟩ = some (.int .i64 ys[k].part) ∧
  w.cell? ⟨b, o + k * 9 + 4, none⟩ = some (.int .i64 ys[k].piece) ∧
  w.cell? ⟨b, o + k * 9 + 5, none⟩ = some (.bool ys[k].equ) ∧
  w.cell? ⟨b, o + k * 9 + 6, none⟩ = some (.int .i64 ys[k].v.add) ∧
  w.cell? ⟨b, o + k * 9 + 7, none⟩ = some (.string ys[k].v.plus) ∧
  w.cell? ⟨b, o + k * 9 + 8, none⟩ = some (.string ys[k].v.minus) :=
 ⟨row_cells Mk.cells 9 (fun _ => rfl) h k hk 0 (by decide), row_cells Mk.cells 9 (fun _ => rfl) h k hk 1 (by decide), row_cells Mk.cells 9 (fun _ => rfl) h k hk 2 (by decide), row_cells Mk.cells 9 (fun _ => rfl) h k hk 3 (by decide), row_cells Mk.cells 9 (fun _ => rfl) h k hk 4 (by decide), row_cells Mk.cells 9 (fun _ => rfl) h k hk 5 (by decide), row_cells Mk.cells 9 (fun _ => rfl) h k hk 6 (by decide), row_cells Mk.cells 9 (fun _ => rfl) h k hk 7 (by decide), row_cells Mk.cells 9 (fun _ => rfl) h k hk 8 (by decide)⟩
theorem mk_ones (x : Mk) : ∀ u ∈ x.cells, u.oneCell' = true := fun u hu => by
 simp [Mk.cells, Sl.val] at hu
 rcases hu with rfl | rfl | rfl | rfl | rfl | rfl | rfl | rfl | rfl <;> rfl
theorem td_cells {ys : List Td} (h : Row w (some ⟨b, o, none⟩) (ys.flatMap Td.cells)) (k : Nat) (hk : k < ys.length) :
  w.cell? ⟨b, o + k * 3, none⟩ = some (.string ys[k].name) ∧
  w.cell? ⟨b, o + k * 3 + 1, none⟩ = some (.int .i64 ys[k].file) ∧
  w.cell? ⟨b, o + k * 3 + 2, none⟩ = some (.int .i64 ys[k].line) :=
 ⟨row_cells Td.cells 3 (fun _ => rfl) h k hk 0 (by decide), row_cells Td.cells 3 (fun _ => rfl) h k hk 1 (by decide), row_cells Td.cells 3 (fun _ => rfl) h k hk 2 (by decide)⟩
theorem td_ones (x : Td) : ∀ u ∈ x.cells, u.oneCell' = true := fun u hu => by
 simp [Td.cells, Sl.val] at hu
 rcases hu with rfl | rfl | rfl <;> rfl
theorem ft_cells {ys : List Ft} (h : Row w (some ⟨b, o, none⟩) (ys.flatMap Ft.cells)) (k : Nat) (hk : k < ys.length) :
  w.cell? ⟨b, o + k * 3, none⟩ = some (.int .i64 ys[k].file) ∧
  w.cell? ⟨b, o + k * 3 + 1, none⟩ = some (.int .i64 ys[k].line) ∧
  w.cell? ⟨b, o + k * 3 + 2, none⟩ = some (.int .i64 ys[k].err) :=
 ⟨row_cells Ft.cells 3 (fun _ => rfl) h k hk 0 (by decide), row_cells Ft.cells 3 (fun _ => rfl) h k hk 1 (by decide), row_cells Ft.cells 3 (fun _ => rfl) h k hk 2 (by decide)⟩
theorem ft_ones (x : Ft) : ∀ u ∈ x.cells, u.oneCell' = true := fun u hu => by
 simp [Ft.cells, Sl.val] at hu
 rcases hu with rfl | rfl | rfl <;> rfl
theorem EPart : Elem Try.prog 28 50 4 56 (.agg #[.string .empty, .int .i64 0, .int .i64 0, .slice none 0 0]) := Elem.mk' Try.underlying28 (by kernel_rfl) rfl (by decide)
theorem EPiece : Elem Try.prog 48 64 11 144 (.agg #[.int .i64 0, .int .i64 0, .int .i64 0, .string .empty, .slice none 0 0, .int .i64 0, .string .empty, .string .empty, .int .i64 0, .slice none 0 0, .int .i64 0]) := Elem.mk' Try.underlying48 (by kernel_rfl) rfl (by decide)
theorem EMark : Elem Try.prog 29 81 9 96 (.agg #[.string .empty, .int .i64 0, .int .i64 0, .int .i64 0, .int .i64 0, .bool false, .int .i64 0, .string .empty, .string .empty]) := Elem.mk' Try.underlying29 (by kernel_rfl) rfl (by decide)
theorem ETold : Elem Try.prog 30 90 3 32 (.agg #[.string .empty, .int .i64 0, .int .i64 0]) := Elem.mk' Try.underlying30 (by kernel_rfl) rfl (by decide)
theorem EFault : Elem Try.prog 33 42 3 24 (.agg #[.int .i64 0, .int .i64 0, .int .i64 0]) := Elem.mk' Try.underlying33 (by kernel_rfl) rfl (by decide)
theorem EOper : Elem Try.prog 23 72 15 120 (.agg #[.int .i64 0, .int .i64 0, .bool false, .bool false, .int .i64 0, .bool false, .bool false, .int .i64 0, .int .i64 0, .int .i64 0, .int .i64 0, .string .empty, .string .empty, .bool false, .int .i64 0]) := Elem.mk' Try.underlying23 (by kernel_rfl) rfl (by decide)
theorem EU8 : Elem Try.prog 55 5 1 1 (.int .u8 0) := Elem.mk' Try.underlying55 (by kernel_rfl) rfl (by decide)
end Go.Proofs.Ythlingholhjcnaa
namespace Go.Proofs.Ythlingholhjcnaa
open Go.RowKit
def begL (s : ByteArray) (l : List UInt8) : Bool := s.toList == l || Lib.hasPrefix s.data.toList (l ++ [46])
def kindP (s : ByteArray) : Int := if begL s [46, 116, 101, 120, 116] then 1 else if begL s [46, 114, 111, 100, 97, 116, 97] then 3 else if begL s [46, 98, 115, 115] then 4 else 2
set_option maxHeartbeats 1000000 in
theorem kind_any (s : ByteArray) (w : World) : Calls Try.prog 56 #[.string s] w fun e w' => e = .returned (.int .i64 (kindP s)) ∧ Below w.heap.size w w' := by
 have HP := hid (fun p w => Try.strings_HasPrefix s p w)
 go_enter Try.func56, Try.ntmps56
 go_wp2
 refine wp_loop_rounds 4 ?_
 rw [rounds_succ]
 go_wp2_with (go_at_call 26; refine (HP.out _ _).mono ?_; rintro e w' ⟨rfl, rfl⟩)
 all_goals try (rw [rounds_succ]; go_wp2_with (go_at_call 26; refine (HP.out _ _).mono ?_; rintro e w' ⟨rfl, rfl⟩))
 all_goals try (rw [rounds_succ]; go_wp2_with (go_at_call 26; refine (HP.out _ _).mono ?_; rintro e w' ⟨rfl, rfl⟩))
 all_goals try (rw [rounds_succ]; go_wp2)
 all_goals (go_ret; refine ⟨ret_int ?_, ?_⟩)
 all_goals first | (simp_all [kindP, begL]; done) | (repeat' (first | exact Below.refl _ _ | refine Below.alloc ?_ (by simp <;> omega) _))
end Go.Proofs.Ythlingholhjcnaa
namespace Go.Proofs.Ythlingholhjcnaa
open Go.RowKit
variable {w w' W : World}
def isS (s : ByteArray) (l : ByteArray) : Bool := s.toList == l.toList
def growsN (n : ByteArray) : Int × Int × Bool :=
 if isS n ⟨#[116, 98, 122]⟩ || isS n ⟨#[116, 98, 110, 122]⟩ then (-32768, 32764, true)
 else if isS n ⟨#[99, 98, 122]⟩ || isS n ⟨#[99, 98, 110, 122]⟩ || Lib.hasPrefix n.data.toList [98, 46] then (-1048576, 1048572, true) else (0, 0, false)
def growsO (o : Oc) : Bool := !(o.kind != 3) && !(isS o.v.plus ⟨#[]⟩) && !(isS o.v.plus ⟨#[46]⟩) && isS o.v.minus ⟨#[]⟩
def growsP (n : ByteArray) (l : List Oc) : Int × Int × Bool := match l.getLast? with
 | none => (0, 0, false)
 | some o => if growsO o then growsN n else (0, 0, false)
def GrowsT (n : ByteArray) (l : List Oc) (w : World) (e : Ending) (w' : World) : Prop := e = .returned (.tuple #[.int .i64 (growsP n l).1, .int .i64 (growsP n l).2.1, .bool (growsP n l).2.2]) ∧ Below w.heap.size w w'
set_option maxRecDepth 20000 in
set_option maxHeartbeats 2000000 in
theorem grows_any (x : LnR) (h : SlOk W Oc.cells 120 x.opers) : Calls Try.prog 11 #[.agg x.cells.toArray] W (GrowsT x.name x.opers.l W) := by
 obtain ⟨nm, ⟨p, c, l⟩⟩ := x
 have HP := hid (fun w => Try.strings_HasPrefix nm ⟨#[98, 46]⟩ w)
 unfold LnR.cells Sl.val
 dsimp only
 by_cases h0 : l = []
 ·subst h0
  clear h
  go_enter Try.func11, Try.ntmps11
  go_wp2
  go_ret3
  exact ⟨rfl, (Below.refl _ _).alloc (Nat.le_refl _) _⟩
 ·obtain ⟨ini, o, rfl⟩ : ∃ ini o, l = ini ++ [o] := ⟨l.dropLast, l.getLast h0, (List.dropLast_concat_getLast h0).symm⟩
  have hlast : (ini ++ [o]).getLast? = some o := by simp
  obtain ⟨b, q, rfl, hbl, -⟩ := h.row.at (by have := flat_len Oc.cells 15 (fun _ => rfl) (ini ++ [o]); rw [List.length_append] at this; simp at this ⊢; omega)
  have hll : (ini ++ [o]).length = ini.length + 1 := by simp
  have hcl := oc_cells h.row ini.length (by rw [hll]; omega)
  have hge : (ini ++ [o])[ini.length]'(by rw [hll]; omega) = o := by simp
  rw [hge] at hcl
  obtain ⟨c0, c1, c2, c3, c4, c5, c6, c7, c8, c9, c10, c11, c12, c13, c14⟩ := hcl
  have hcap := h.cap
  have hlen := h.len
  obtain ⟨r1, r2, r3, hr⟩ : ∃ r1 r2 r3, growsP nm (ini ++ [o]) = (r1, r2, r3) := ⟨_, _, _, rfl⟩
  have HG : Hid ((if growsO o then growsN nm else (0, 0, false)) = (r1, r2, r3)) := by unfold Hid; rw [← hr, growsP, hlast]
  unfold GrowsT
  rw [hr]
  clear hr
  dsimp only at hcap hlen
  rw [hll] at hlen hcap ⊢
  have hI : (((ini.length + 1 : Nat) : Int) == 0) = false := by simp; omega
  have hw1 : IntKind.i64.wrap (((ini.length + 1 : Nat) : Int) - 1) = (ini.length : Nat) := by rw [IntWalk.i64_in _ (by omega)]; omega
  clear h hge hlast h0 hll
  generalize ini.length = k at *
  go_enter Try.func11, Try.ntmps11
  go_wp2_with (go_at_call 26; (with_reducible refine (HP.out _).mono ?_); rintro e w' ⟨rfl, rfl⟩)
  all_goals (go_ret3; refine ⟨?_, ((Below.refl _ _).alloc (Nat.le_refl _) _).alloc (by simp) _⟩)
  all_goals first
   | (suffices hs : ((0 : Int), (0 : Int), false) = (r1, r2, r3) by (cases hs; rfl)); rw [← HG.out]; clear HG HP; simp_all [growsO, growsN, isS]; done
   | (suffices hs : ((-32768 : Int), (32764 : Int), true) = (r1, r2, r3) by (cases hs; rfl)); rw [← HG.out]; clear HG HP; simp_all [growsO, growsN, isS]; done
   | (suffices hs : ((-1048576 : Int), (1048572 : Int), true) = (r1, r2, r3) by (cases hs; rfl)); rw [← HG.out]; clear HG HP; simp_all [growsO, growsN, isS]; done
end Go.Proofs.Ythlingholhjcnaa
namespace Go.Proofs.Ythlingholhjcnaa
open Go.RowKit
variable {w w' W : World}
end Go.Proofs.Ythlingholhjcnaa
namespace Go.Proofs.Ythlingholhjcnaa
open Go.RowKit
variable {W W' w w' : World} {base m mb : Nat} {X : FV} {nm : List ByteArray} {file line : Int} {name : ByteArray}
def isPT (x : Nat) : Prop := x ≠ 78 + 1 ∧ x ≠ 85 + 1 ∧ x ≠ 0 ∧ x ≠ 50 + 1 ∧ x ≠ 64 + 1 ∧ x ≠ 81 + 1 ∧ x ≠ 90 + 1 ∧ x ≠ 42 + 1
theorem ob_pt {x : Nat} (h : isOB x) : isPT x := by rcases h with rfl | rfl <;> (unfold isPT; decide)
def TrnP (P : Nat → Prop) (base : Nat) (W w' : World) : Prop := Below base W w' ∧ Lies base P W w'
abbrev Trn (base : Nat) (W w' : World) : Prop := TrnP isPT base W w'
def isPM (x : Nat) : Prop := isPT x ∨ x = 64 + 1 ∨ x = 81 + 1
section
variable {P Q : Nat → Prop}
theorem TrnP.refl (base : Nat) (W : World) : TrnP P base W W := ⟨Below.refl _ _, Lies.refl _ _ _⟩
theorem TrnP.trans {A B C : World} (h : TrnP P base A B) (h2 : TrnP P base B C) : TrnP P base A C := ⟨h.1.trans h2.1, h.2.trans h2.2⟩
theorem TrnP.below (hb : Below W.heap.size W w') (hz : base ≤ W.heap.size) : TrnP P base W w' := ⟨hb.mono hz, Lies.below _ hb hz⟩
theorem TrnP.size (h : TrnP P base W w') : W.heap.size ≤ w'.heap.size := h.1.size
theorem TrnP.mono (h : TrnP P base W w') (hq : ∀ x, Q x → P x) : TrnP Q base W w' := ⟨h.1, h.2.mono hq⟩
theorem TrnP.grown {row : Option Nat} {x : Nat} (hg : W.grownBy w' row) (hr : ∀ g, row = some g → tagAt W g = some x ∧ base ≤ g) (hx : ¬ P x) (hz : base ≤ W.heap.size) : TrnP P base W w' :=
 ⟨(Below.refl base W).grown hg hz (fun k e => (hr k e).2), Lies.grown hg hr hx hz⟩
end
theorem TrnP.pt (h : TrnP isPM base W w') : Trn base W w' := h.mono fun _ h => .inl h
theorem PcOk.trn {x : PcR} (h : PcOk W base x) (ht : Trn base W w') : PcOk w' base x := h.lies (ht.2.mono fun _ h => ob_pt h)
structure FL (m k : Nat) (file line : Int) (name : ByteArray) (w' : World) : Prop where
 f : w'.cell? ⟨m, k, none⟩ = some (.int .i64 file)
 l : w'.cell? ⟨m, k + 1, none⟩ = some (.int .i64 line)
 n : w'.cell? ⟨m, k + 2, none⟩ = some (.string name)
theorem FL.blk {k : Nat} (h : FL m k file line name W) (hk : W'.heap[m]? = W.heap[m]?) : FL m k file line name W' :=
 ⟨(World.cell?_of_block (a := ⟨m, k, none⟩) hk).trans h.f, (World.cell?_of_block (a := ⟨m, k + 1, none⟩) hk).trans h.l, (World.cell?_of_block (a := ⟨m, k + 2, none⟩) hk).trans h.n⟩
theorem FL.set {k j : Nat} (h : FL m k file line name W) (hj : j < k) (v : Value) : FL m k file line name (W.setCell ⟨m, j, none⟩ v) :=
 ⟨(World.cell?_setCell_other _ _ _ _ (fun e => by injection e; omega)).trans h.f, (World.cell?_setCell_other _ _ _ _ (fun e => by injection e; omega)).trans h.l, (World.cell?_setCell_other _ _ _ _ (fun e => by injection e; omega)).trans h.n⟩
def natV (n : Nat) : Value := .int .i64 (n : Int)
def idxO (l : List ByteArray) (k : ByteArray) : Option Nat := l.findIdx? (fun x => decide (x = k))
def headC (X : FV) (mb : Nat) (file line : Int) (name : ByteArray) : Array Value := #[X.pv, X.mv, X.gv, .map (some mb), X.fv, .int .i64 file, .int .i64 line, .string name]
structure CIsN (W : World) (base m mb : Nat) (X : FV) (nm : List ByteArray) (file line : Int) (name : ByteArray) : Prop where
 head : W.heap[m]? = some (.cells (headC X mb file line name) 78 (0, 0))
 mp : ∃ am : List (ByteArray × Nat), MapIs Value.string natV W mb am ∧ ∀ k, alook am k = idxO nm k
 is : FIs W base X
 ge : base ≤ m ∧ base ≤ mb
abbrev CIs (W : World) (base m mb : Nat) (X : FV) (file line : Int) (name : ByteArray) : Prop := CIsN W base m mb X (X.ps.map PtR.name) file line name
theorem CIsN.lt (h : CIsN W base m mb X nm file line name) : m < W.heap.size := (Array.getElem?_eq_some_iff.1 h.head).1
theorem CIsN.hz (h : CIsN W base m mb X nm file line name) : base ≤ W.heap.size := by have := h.lt; have := h.ge.1; omega
theorem CIsN.tagM (h : CIsN W base m mb X nm file line name) : tagAt W m = some (78 + 1) := tag_row h.head
theorem CIsN.cells (h : CIsN W base m mb X nm file line name) : W.cell? ⟨m, 0, none⟩ = some X.pv ∧ W.cell? ⟨m, 1, none⟩ = some X.mv ∧ W.cell? ⟨m, 2, none⟩ = some X.gv ∧ W.cell? ⟨m, 3, none⟩ = some (.map (some mb)) ∧ W.cell? ⟨m, 4, none⟩ = some X.fv ∧ FL m 5 file line name W :=
 ⟨cell_of_row _ _ 0 _ _ _ h.head, cell_of_row _ _ 1 _ _ _ h.head, cell_of_row _ _ 2 _ _ _ h.head, cell_of_row _ _ 3 _ _ _ h.head, cell_of_row _ _ 4 _ _ _ h.head, cell_of_row _ _ 5 _ _ _ h.head, cell_of_row _ _ 6 _ _ _ h.head, cell_of_row _ _ 7 _ _ _ h.head⟩
theorem CIsN.below (h : CIsN W base m mb X nm file line name) (hb : Below W.heap.size W w') : CIsN w' base m mb X nm file line name := by
 obtain ⟨am, h1, h2⟩ := h.mp
 exact ⟨(hb.block _ h.lt).trans h.head, ⟨am, h1.below hb h1.lt, h2⟩, h.is.lies (Lies.below _ hb h.hz), h.ge⟩
theorem CIsN.store (h : CIsN W base m mb X nm file line name) {x : Nat} (hl : Lies base (fun y => y ≠ x) W w') (hx : x ≠ 78 + 1 ∧ x ≠ 0) {X' : FV} (hF : FIs w' base X') (k : Nat) (v : Value) (hk : headC X' mb file line name = (headC X mb file line name).setIfInBounds k v) :
  CIsN (w'.setCell ⟨m, k, none⟩ v) base m mb X' nm file line name := by
 obtain ⟨am, h1, h2⟩ := h.mp
 have hm : w'.heap[m]? = some (.cells (headC X mb file line name) 78 (0, 0)) := (hl.tag m _ h.tagM (Ne.symm hx.1)).trans h.head
 have hmb : mb ≠ m := tag_ne (map_tag h1) h.tagM (by decide)
 have hmt : tagAt w' m = some (78 + 1) := tag_row hm
 refine ⟨?_, ⟨am, ?_, h2⟩, hF.lies ?_, h.ge⟩
 ·rw [hk]; exact heap_setCell_same _ _ _ _ _ _ hm
 ·obtain ⟨es, c, e1, e2⟩ := h1
  exact ⟨es, c, (heap_setCell_other _ _ _ _ hmb).trans ((hl.tag mb 0 (by unfold tagAt; rw [e1]; rfl) (Ne.symm hx.2)).trans e1), e2⟩
 ·exact (Lies.grown (x := 78 + 1) (P := fun y => y ≠ 78 + 1) (grown_set _ _ _) (fun g hg => by cases hg; exact ⟨hmt, h.ge.1⟩) (fun hn => hn rfl) (Nat.le_trans h.hz hl.size)).mono (by rintro y ((rfl | rfl | rfl | rfl | rfl) | (rfl | rfl)) <;> decide)
theorem TrnP.store {P : Nat → Prop} (hP : ¬ P (78 + 1)) (h : CIsN W base m mb X nm file line name) (ht : TrnP P base W w') (hm : tagAt w' m = some (78 + 1)) (k : Nat) (v : Value) : TrnP P base W (w'.setCell ⟨m, k, none⟩ v) :=
 ht.trans (TrnP.grown (x := 78 + 1) (grown_set _ _ _) (fun g hg => by cases hg; exact ⟨hm, h.ge.1⟩) hP (Nat.le_trans h.hz ht.size))
theorem FL.drew {k : Nat} (h : FL m k file line name W) : FL m k file line name W.drew := ⟨h.f, h.l, h.n⟩
theorem alloc_below (W : World) (o : Obj) : Below W.heap.size W (W.alloc o) := (Below.refl _ _).alloc (Nat.le_refl _) _
theorem CIsN.finFault (h : CIsN W base m mb X nm file line name) {o : Obj} {w8 : World} {v' : Value} (k : Ft) (ho : w8.ownsRow base 42 3 v' (X.fs.length + 1) (X.fs.flatMap Ft.cells ++ k.cells)) (hg : (W.alloc o).drew.grownBy w8 X.fv.ownBlock) :
  CIsN (w8.setCell ⟨m, 4, none⟩ v') base m mb { X with fv := v', fs := X.fs ++ [k] } nm file line name ∧ Trn base W (w8.setCell ⟨m, 4, none⟩ v') := by
 have hA := h.below (alloc_below W o)
 have hg := grown_undrew hg
 have hr : ∀ g, X.fv.ownBlock = some g → tagAt (W.alloc o) g = some (42 + 1) ∧ base ≤ g := fun g hgg => ⟨own_tag hA.is.faults hgg, own_ge hA.is.faults g hgg⟩
 have hl : Lies base (fun y => y ≠ 42 + 1) (W.alloc o) w8 := Lies.grown hg hr (fun hn => hn rfl) hA.hz
 have ht : Trn base W w8 := (TrnP.below (alloc_below W o) h.hz).trans (TrnP.grown hg hr (by unfold isPT; decide) hA.hz)
 exact ⟨hA.store hl ⟨by decide, by decide⟩ (hA.is.addFault hA.hz k ho hg) 4 v' rfl, TrnP.store (by unfold isPT; decide) h ht (tag_blk hA.tagM (hl.tag m _ hA.tagM (by decide))) 4 v'⟩
theorem CIsN.appFault (h : CIsN W base m mb X nm file line name) {o : Obj} {w8 : World} (hg : (W.alloc o).drew.grownBy w8 X.fv.ownBlock) : w8.heap[m]? = some (.cells (headC X mb file line name) 78 (0, 0)) ∧ FL m 5 file line name w8 := by
 have hA := h.below (alloc_below W o)
 have hg := grown_undrew hg
 have e : w8.heap[m]? = (W.alloc o).heap[m]? := hg.block m hA.lt (fun e => tag_ne (own_tag hA.is.faults e.symm) hA.tagM (by decide) rfl)
 exact ⟨e.trans hA.head, hA.cells.2.2.2.2.2.blk e⟩
theorem CIsN.finMark (h : CIsN W base m mb X nm file line name) {o : Obj} {w8 : World} {v' : Value} (k : Mk) (ho : w8.ownsRow base 81 9 v' (X.ms.length + 1) (X.ms.flatMap Mk.cells ++ k.cells)) (hg : (W.alloc o).drew.grownBy w8 X.mv.ownBlock) :
  CIsN (w8.setCell ⟨m, 1, none⟩ v') base m mb { X with mv := v', ms := X.ms ++ [k] } nm file line name ∧ Trn base W (w8.setCell ⟨m, 1, none⟩ v') := by
 have hA := h.below (alloc_below W o)
 have hg := grown_undrew hg
 have hr : ∀ g, X.mv.ownBlock = some g → tagAt (W.alloc o) g = some (81 + 1) ∧ base ≤ g := fun g hgg => ⟨own_tag hA.is.marks hgg, own_ge hA.is.marks g hgg⟩
 have hl : Lies base (fun y => y ≠ 81 + 1) (W.alloc o) w8 := Lies.grown hg hr (fun hn => hn rfl) hA.hz
 have ht : Trn base W w8 := (TrnP.below (alloc_below W o) h.hz).trans (TrnP.grown hg hr (by unfold isPT; decide) hA.hz)
 exact ⟨hA.store hl ⟨by decide, by decide⟩ (hA.is.addMark hA.hz k ho hg) 1 v' rfl, TrnP.store (by unfold isPT; decide) h ht (tag_blk hA.tagM (hl.tag m _ hA.tagM (by decide))) 1 v'⟩
theorem CIsN.appMark (h : CIsN W base m mb X nm file line name) {o : Obj} {w8 : World} (hg : (W.alloc o).drew.grownBy w8 X.mv.ownBlock) : w8.heap[m]? = some (.cells (headC X mb file line name) 78 (0, 0)) ∧ FL m 5 file line name w8 := by
 have hA := h.below (alloc_below W o)
 have hg := grown_undrew hg
 have e : w8.heap[m]? = (W.alloc o).heap[m]? := hg.block m hA.lt (fun e => tag_ne (own_tag hA.is.marks e.symm) hA.tagM (by decide) rfl)
 exact ⟨e.trans hA.head, hA.cells.2.2.2.2.2.blk e⟩
theorem CIsN.finTold (h : CIsN W base m mb X nm file line name) {o : Obj} {w8 : World} {v' : Value} (k : Td) (ho : w8.ownsRow base 90 3 v' (X.gs.length + 1) (X.gs.flatMap Td.cells ++ k.cells)) (hg : (W.alloc o).drew.grownBy w8 X.gv.ownBlock) :
  CIsN (w8.setCell ⟨m, 2, none⟩ v') base m mb { X with gv := v', gs := X.gs ++ [k] } nm file line name ∧ Trn base W (w8.setCell ⟨m, 2, none⟩ v') := by
 have hA := h.below (alloc_below W o)
 have hg := grown_undrew hg
 have hr : ∀ g, X.gv.ownBlock = some g → tagAt (W.alloc o) g = some (90 + 1) ∧ base ≤ g := fun g hgg => ⟨own_tag hA.is.globals hgg, own_ge hA.is.globals g hgg⟩
 have hl : Lies base (fun y => y ≠ 90 + 1) (W.alloc o) w8 := Lies.grown hg hr (fun hn => hn rfl) hA.hz
 have ht : Trn base W w8 := (TrnP.below (alloc_below W o) h.hz).trans (TrnP.grown hg hr (by unfold isPT; decide) hA.hz)
 exact ⟨hA.store hl ⟨by decide, by decide⟩ (hA.is.addTold hA.hz k ho hg) 2 v' rfl, TrnP.store (by unfold isPT; decide) h ht (tag_blk hA.tagM (hl.tag m _ hA.tagM (by decide))) 2 v'⟩
theorem CIsN.appTold (h : CIsN W base m mb X nm file line name) {o : Obj} {w8 : World} (hg : (W.alloc o).drew.grownBy w8 X.gv.ownBlock) : w8.heap[m]? = some (.cells (headC X mb file line name) 78 (0, 0)) ∧ FL m 5 file line name w8 := by
 have hA := h.below (alloc_below W o)
 have hg := grown_undrew hg
 have e : w8.heap[m]? = (W.alloc o).heap[m]? := hg.block m hA.lt (fun e => tag_ne (own_tag hA.is.globals e.symm) hA.tagM (by decide) rfl)
 exact ⟨e.trans hA.head, hA.cells.2.2.2.2.2.blk e⟩
end Go.Proofs.Ythlingholhjcnaa
namespace Go.Proofs.Ythlingholhjcnaa
open Go.RowKit
variable {W W' w w' : World} {base m mb : Nat} {X : FV} {file line : Int} {name : ByteArray}
def FailsT (W : World) (base m mb : Nat) (X : FV) (file line : Int) (name : ByteArray) (er : Int) (e : Ending) (w' : World) : Prop :=
 e = .returned (.tuple #[]) ∧ (∃ v', CIs w' base m mb { X with fv := v', fs := X.fs ++ [⟨file, line, er⟩] } file line name) ∧ Trn base W w'
set_option maxRecDepth 20000 in
set_option maxHeartbeats 4000000 in
theorem fails_any (h : CIs W base m mb X file line name) (hn : X.fs.length ≤ 1000000000) (er : Int) :
  Calls Try.prog 36 #[.pointer (some ⟨m, 0, none⟩), .int .i64 er] W (FailsT W base m mb X file line name er) := by
 unfold FailsT
 obtain ⟨c0, c1, c2, c3, c4, hfl⟩ := h.cells
 have HC := hid h
 have hz := h.hz
 obtain ⟨pc, cc, hvc, -⟩ := own_shape h.is.faults
 rw [hvc] at c4
 have HP7 : Hid (W.ownsRow base 42 3 (.slice pc X.fs.length cc) X.fs.length (X.fs.flatMap Ft.cells)) := by have := h.is.faults; rw [hvc] at this; exact this
 have HVC : Hid (X.fv.ownBlock = (Value.slice pc X.fs.length cc).ownBlock) := by unfold Hid; rw [hvc]
 have HSL : Hid (∀ o : Obj, FL m 5 file line name (W.alloc o).drew) := fun o => (hfl.blk (Below.heap_alloc W o m h.lt)).drew
 have HH0 : Hid (FL m 5 file line name W.drew) := hfl.drew
 have c4L : ∀ o : Obj, (W.alloc o).cell? ⟨m, 4, none⟩ = some (.slice pc X.fs.length cc) := fun o => (World.cell?_of_block (a := ⟨m, 4, none⟩) (Below.heap_alloc W o m h.lt)).trans c4
 have a5 : ∀ w' : World, FL m 5 file line name w' → w'.cell? ⟨m, 5, none⟩ = some (.int .i64 file) := fun _ h => h.f
 have a6 : ∀ w' : World, FL m 5 file line name w' → w'.cell? ⟨m, 6, none⟩ = some (.int .i64 line) := fun _ h => h.l
 clear h hfl c0 c1 c2 c3 hvc
 generalize hfn : X.fs.length = fn at *
 have HFN := hid hfn
 clear hfn
 go_enter Try.func36, Try.ntmps36
 refine wp_region_held_drew (S := FL m 5 file line name) (by kernel_rfl) HH0.out (fun hHeld => ?_)
 refine wpAnyH_take (i := 0) (oi := { dst := some 4, op := Op.move (Operand.tmp 0), type := 75, pos := "frag.go:45", after := #[], guard := none }) (v := ?fav0) rfl (by kernel_rfl) (by kernel_rfl) (by kernel_rfl) (fun _ _ _ h => h) (Or.inl ⟨by rfl, ?fah0⟩) (by assumption) ?far0
 case fah0 => ((intro w hSw; (try dsimp only at hSw); go_simp); try with_reducible rfl)
 try simp only [Act.put, List.setIfInBounds_toArray, List.set_cons_zero, List.set_cons_succ]
 refine wpAnyH_take (i := 1) (oi := { dst := some 5, op := Op.move (Operand.tmp 0), type := 75, pos := "frag.go:45", after := #[], guard := none }) (v := ?fav1) rfl (by kernel_rfl) (by kernel_rfl) (by kernel_rfl) (fun _ _ _ h => h) (Or.inl ⟨by rfl, ?fah1⟩) (by assumption) ?far1
 case fah1 => ((intro w hSw; (try dsimp only at hSw); go_simp); try with_reducible rfl)
 try simp only [Act.put, List.setIfInBounds_toArray, List.set_cons_zero, List.set_cons_succ]
 refine wpAnyH_take (i := 2) (oi := { dst := some 6, op := Op.nilCheck (Operand.tmp 5), type := 0, pos := "frag.go:45", after := #[{ on := 1, ground := Ground.data }], guard := none }) (v := ?fav2) rfl (by kernel_rfl) (by kernel_rfl) (by kernel_rfl) (fun _ _ _ h => h) (Or.inl ⟨by rfl, ?fah2⟩) (by assumption) ?far2
 case fah2 => ((intro w hSw; (try dsimp only at hSw); go_simp); try with_reducible rfl)
 try simp only [Act.put, List.setIfInBounds_toArray, List.set_cons_zero, List.set_cons_succ]
 refine wpAnyH_take (i := 3) (oi := { dst := some 7, op := Op.fieldAddr 78 (Operand.tmp 6) 2, type := 0, pos := "frag.go:45", after := #[{ on := 2, ground := Ground.data }], guard := none }) (v := ?fav3) rfl (by kernel_rfl) (by kernel_rfl) (by kernel_rfl) (fun _ _ _ h => h) (Or.inl ⟨by rfl, ?fah3⟩) (by assumption) ?far3
 case fah3 => ((intro w hSw; (try dsimp only at hSw); go_simp); try with_reducible rfl)
 try simp only [Act.put, List.setIfInBounds_toArray, List.set_cons_zero, List.set_cons_succ]
 refine wpAnyH_take (i := 5) (oi := { dst := some 9, op := Op.move (Operand.tmp 0), type := 75, pos := "frag.go:45", after := #[], guard := none }) (v := ?fav5) rfl (by kernel_rfl) (by kernel_rfl) (by kernel_rfl) (fun _ _ _ h => h) (Or.inl ⟨by rfl, ?fah5⟩) (by assumption) ?far5
 case fah5 => ((intro w hSw; (try dsimp only at hSw); go_simp); try with_reducible rfl)
 try simp only [Act.put, List.setIfInBounds_toArray, List.set_cons_zero, List.set_cons_succ]
 refine wpAnyH_take (i := 6) (oi := { dst := some 10, op := Op.nilCheck (Operand.tmp 9), type := 0, pos := "frag.go:45", after := #[{ on := 5, ground := Ground.data }], guard := none }) (v := ?fav6) rfl (by kernel_rfl) (by kernel_rfl) (by kernel_rfl) (fun _ _ _ h => h) (Or.inl ⟨by rfl, ?fah6⟩) (by assumption) ?far6
 case fah6 => ((intro w hSw; (try dsimp only at hSw); go_simp); try with_reducible rfl)
 try simp only [Act.put, List.setIfInBounds_toArray, List.set_cons_zero, List.set_cons_succ]
 refine wpAnyH_take (i := 7) (oi := { dst := some 11, op := Op.fieldAddr 78 (Operand.tmp 10) 3, type := 0, pos := "frag.go:45", after := #[{ on := 6, ground := Ground.data }], guard := none }) (v := ?fav7) rfl (by kernel_rfl) (by kernel_rfl) (by kernel_rfl) (fun _ _ _ h => h) (Or.inl ⟨by rfl, ?fah7⟩) (by assumption) ?far7
 case fah7 => ((intro w hSw; (try dsimp only at hSw); go_simp); try with_reducible rfl)
 try simp only [Act.put, List.setIfInBounds_toArray, List.set_cons_zero, List.set_cons_succ]
 refine wpAnyH_take (i := 8) (oi := { dst := some 12, op := Op.load 3 (Operand.tmp 11), type := 3, pos := "frag.go:45", after := #[{ on := 7, ground := Ground.data }], guard := none }) (v := ?fav8) rfl (by kernel_rfl) (by kernel_rfl) (by kernel_rfl) (fun _ _ _ h => h) (Or.inl ⟨by rfl, ?fah8⟩) (by assumption) ?far8
 case fah8 => ((intro w hSw; (try dsimp only at hSw); go_simp); try with_reducible rfl)
 try simp only [Act.put, List.setIfInBounds_toArray, List.set_cons_zero, List.set_cons_succ]
 refine wpAnyH_take (i := 9) (oi := { dst := some 13, op := Op.move (Operand.tmp 0), type := 75, pos := "frag.go:45", after := #[], guard := none }) (v := ?fav9) rfl (by kernel_rfl) (by kernel_rfl) (by kernel_rfl) (fun _ _ _ h => h) (Or.inl ⟨by rfl, ?fah9⟩) (by assumption) ?far9
 case fah9 => ((intro w hSw; (try dsimp only at hSw); go_simp); try with_reducible rfl)
 try simp only [Act.put, List.setIfInBounds_toArray, List.set_cons_zero, List.set_cons_succ]
 refine wpAnyH_take (i := 10) (oi := { dst := some 14, op := Op.nilCheck (Operand.tmp 13), type := 0, pos := "frag.go:45", after := #[{ on := 9, ground := Ground.data }], guard := none }) (v := ?fav10) rfl (by kernel_rfl) (by kernel_rfl) (by kernel_rfl) (fun _ _ _ h => h) (Or.inl ⟨by rfl, ?fah10⟩) (by assumption) ?far10
 case fah10 => ((intro w hSw; (try dsimp only at hSw); go_simp); try with_reducible rfl)
 try simp only [Act.put, List.setIfInBounds_toArray, List.set_cons_zero, List.set_cons_succ]
 refine wpAnyH_take (i := 11) (oi := { dst := some 15, op := Op.fieldAddr 78 (Operand.tmp 14) 4, type := 0, pos := "frag.go:45", after := #[{ on := 10, ground := Ground.data }], guard := none }) (v := ?fav11) rfl (by kernel_rfl) (by kernel_rfl) (by kernel_rfl) (fun _ _ _ h => h) (Or.inl ⟨by rfl, ?fah11⟩) (by assumption) ?far11
 case fah11 => ((intro w hSw; (try dsimp only at hSw); go_simp); try with_reducible rfl)
 try simp only [Act.put, List.setIfInBounds_toArray, List.set_cons_zero, List.set_cons_succ]
 refine wpAnyH_take (i := 12) (oi := { dst := some 16, op := Op.load 3 (Operand.tmp 15), type := 3, pos := "frag.go:45", after := #[{ on := 11, ground := Ground.data }], guard := none }) (v := ?fav12) rfl (by kernel_rfl) (by kernel_rfl) (by kernel_rfl) (fun _ _ _ h => h) (Or.inl ⟨by rfl, ?fah12⟩) (by assumption) ?far12
 case fah12 => ((intro w hSw; (try dsimp only at hSw); go_simp); try with_reducible rfl)
 try simp only [Act.put, List.setIfInBounds_toArray, List.set_cons_zero, List.set_cons_succ]
 refine wpAnyH_take (i := 13) (oi := { dst := some 17, op := Op.move (Operand.tmp 1), type := 40, pos := "frag.go:45", after := #[], guard := none }) (v := ?fav13) rfl (by kernel_rfl) (by kernel_rfl) (by kernel_rfl) (fun _ _ _ h => h) (Or.inl ⟨by rfl, ?fah13⟩) (by assumption) ?far13
 case fah13 => ((intro w hSw; (try dsimp only at hSw); go_simp); try with_reducible rfl)
 try simp only [Act.put, List.setIfInBounds_toArray, List.set_cons_zero, List.set_cons_succ]
 refine wpAnyH_take (i := 14) (oi := { dst := some 18, op := Op.build 42 #[(0, Operand.tmp 12), (1, Operand.tmp 16), (2, Operand.tmp 17)], type := 42, pos := "frag.go:45", after := #[{ on := 8, ground := Ground.data }, { on := 12, ground := Ground.data }, { on := 13, ground := Ground.data }], guard := none }) (v := ?fav14) rfl (by kernel_rfl) (by kernel_rfl) (by kernel_rfl) (fun _ _ _ h => h) (Or.inl ⟨by rfl, ?fah14⟩) (by assumption) ?far14
 case fah14 => ((intro w hSw; (try dsimp only at hSw); go_simp); try with_reducible rfl)
 try simp only [Act.put, List.setIfInBounds_toArray, List.set_cons_zero, List.set_cons_succ]
 refine wpAnyH_ready (rs := [4, 15]) (by kernel_rfl) (by simp) ?_
 refine AllReadyH.cons (o := { dst := some 8, op := Op.load 33 (Operand.tmp 7), type := 33, pos := "frag.go:45", after := #[{ on := 3, ground := Ground.data }], guard := none }) rfl (fun K hK => ?_) ?_
 ·go_simp; refine hK.out _ _ (by first | exact HH0.out | exact HSL.out _) (fun hHeld => ?_)
  clear hK K
  try simp only [Act.put, List.setIfInBounds_toArray, List.set_cons_zero, List.set_cons_succ]
  refine wpAnyH_ready (rs := [15]) (by kernel_rfl) (by simp) ?_
  refine AllReadyH.cons (o := { dst := some 19, op := Op.buildSlice 33 1 #[(0, Operand.tmp 18)], type := 33, pos := "frag.go:45", after := #[{ on := 14, ground := Ground.data }], guard := none }) rfl (fun K hK => ?_) AllReadyH.nil
  go_simp; refine hK.out _ _ (HSL.out _) (fun hHeld => ?_)
  clear hK K
  try simp only [Act.put, List.setIfInBounds_toArray, List.set_cons_zero, List.set_cons_succ]
  refine wpAnyH_ready (rs := [16]) (by kernel_rfl) (by simp) ?_
  refine AllReadyH.cons (o := { dst := some 20, op := Op.call { callee := Callee.builtin Builtin.append, args := #[Operand.tmp 8, Operand.tmp 19], argTypes := #[33, 33] }, type := 33, pos := "frag.go:45", after := #[{ on := 4, ground := Ground.data }, { on := 15, ground := Ground.data }], guard := none }) rfl (fun K hK => ?_) AllReadyH.nil
  (refine step_app EFault rfl (.tmp 8) (.tmp 19) rfl base (.slice pc fn cc) fn (X.fs.flatMap Ft.cells) rfl (HP7.out.alloc _) _ 1 1 (Ft.cells ⟨file, line, er⟩) rfl rfl (row_newAt _ _ _ _ rfl) (ft_ones _) (by unfold maxLen; omega) (by omega) (by simp; omega) ?_); intro vp' w8 ho8 hg8 hs8; obtain ⟨p8, c8, rfl, -⟩ := own_shape ho8; have HO8 := hid ho8; have HG8 := hid hg8; clear ho8 hg8 hs8; obtain ⟨hh8, ha8⟩ := HC.out.appFault (by rw [HVC.out]; exact HG8.out); have HA8 := hid ha8; have zf4 := frozen_of_row _ _ 4 _ _ hh8; have z4 := cell_of_row _ _ 4 _ _ _ hh8; clear hh8 ha8; refine hK.out _ _ HA8.out (fun hHeld => ?_)
  clear hK K
  try simp only [Act.put, List.setIfInBounds_toArray, List.set_cons_zero, List.set_cons_succ]
  refine wpAnyH_take (i := 17) (oi := { dst := some 21, op := Op.nilCheck (Operand.tmp 4), type := 0, pos := "frag.go:45", after := #[{ on := 0, ground := Ground.data }, { on := 0, ground := Ground.phase }, { on := 1, ground := Ground.phase }, { on := 2, ground := Ground.phase }, { on := 3, ground := Ground.phase }, { on := 4, ground := Ground.phase }, { on := 5, ground := Ground.phase }, { on := 6, ground := Ground.phase }, { on := 7, ground := Ground.phase }, { on := 8, ground := Ground.phase }, { on := 9, ground := Ground.phase }, { on := 10, ground := Ground.phase }, { on := 11, ground := Ground.phase }, { on := 12, ground := Ground.phase }, { on := 13, ground := Ground.phase }, { on := 14, ground := Ground.phase }, { on := 15, ground := Ground.phase }, { on := 16, ground := Ground.phase }], guard := none }) (v := ?faav17) rfl (by kernel_rfl) (by kernel_rfl) (by kernel_rfl) (fun _ _ _ h => h) (Or.inl ⟨by rfl, ?faah17⟩) (by assumption) ?faar17
  case faah17 => ((intro w hSw; (try dsimp only at hSw); go_simp); try with_reducible rfl)
  try simp only [Act.put, List.setIfInBounds_toArray, List.set_cons_zero, List.set_cons_succ]
  refine wpAnyH_take (i := 18) (oi := { dst := some 22, op := Op.fieldAddr 78 (Operand.tmp 21) 2, type := 0, pos := "frag.go:45", after := #[{ on := 17, ground := Ground.data }, { on := 0, ground := Ground.phase }, { on := 1, ground := Ground.phase }, { on := 2, ground := Ground.phase }, { on := 3, ground := Ground.phase }, { on := 4, ground := Ground.phase }, { on := 5, ground := Ground.phase }, { on := 6, ground := Ground.phase }, { on := 7, ground := Ground.phase }, { on := 8, ground := Ground.phase }, { on := 9, ground := Ground.phase }, { on := 10, ground := Ground.phase }, { on := 11, ground := Ground.phase }, { on := 12, ground := Ground.phase }, { on := 13, ground := Ground.phase }, { on := 14, ground := Ground.phase }, { on := 15, ground := Ground.phase }, { on := 16, ground := Ground.phase }], guard := none }) (v := ?faav18) rfl (by kernel_rfl) (by kernel_rfl) (by kernel_rfl) (fun _ _ _ h => h) (Or.inl ⟨by rfl, ?faah18⟩) (by assumption) ?faar18
  case faah18 => ((intro w hSw; (try dsimp only at hSw); go_simp); try with_reducible rfl)
  try simp only [Act.put, List.setIfInBounds_toArray, List.set_cons_zero, List.set_cons_succ]
  refine wpAnyH_ready (rs := [19]) (by kernel_rfl) (by simp) ?_
  refine AllReadyH.cons (o := { dst := none, op := Op.store 33 (Operand.tmp 22) (Operand.tmp 20), type := 0, pos := "frag.go:45", after := #[{ on := 18, ground := Ground.data }, { on := 16, ground := Ground.data }, { on := 16, ground := Ground.chain }, { on := 0, ground := Ground.phase }, { on := 1, ground := Ground.phase }, { on := 2, ground := Ground.phase }, { on := 3, ground := Ground.phase }, { on := 4, ground := Ground.phase }, { on := 5, ground := Ground.phase }, { on := 6, ground := Ground.phase }, { on := 7, ground := Ground.phase }, { on := 8, ground := Ground.phase }, { on := 9, ground := Ground.phase }, { on := 10, ground := Ground.phase }, { on := 11, ground := Ground.phase }, { on := 12, ground := Ground.phase }, { on := 13, ground := Ground.phase }, { on := 14, ground := Ground.phase }, { on := 15, ground := Ground.phase }, { on := 16, ground := Ground.phase }], guard := none }) rfl (fun K hK => ?_) AllReadyH.nil
  go_simp; refine hK.out _ _ (HA8.out.set (by decide) _) (fun hHeld => ?_)
  clear hK K
  try simp only [Act.put, List.setIfInBounds_toArray, List.set_cons_zero, List.set_cons_succ]
  refine wpAnyH_done (by kernel_rfl) ?_ _
  go_wp2_with fail
  have hfin := HC.out.finFault ⟨file, line, er⟩ (by rw [HFN.out]; exact HO8.out) (by rw [HVC.out]; exact HG8.out)
  go_end0
  exact ⟨rfl, ⟨_, hfin.1⟩, hfin.2⟩
 refine AllReadyH.cons (o := { dst := some 19, op := Op.buildSlice 33 1 #[(0, Operand.tmp 18)], type := 33, pos := "frag.go:45", after := #[{ on := 14, ground := Ground.data }], guard := none }) rfl (fun K hK => ?_) AllReadyH.nil
 go_simp; refine hK.out _ _ (HSL.out _) (fun hHeld => ?_)
 clear hK K
 try simp only [Act.put, List.setIfInBounds_toArray, List.set_cons_zero, List.set_cons_succ]
 refine wpAnyH_ready (rs := [4]) (by kernel_rfl) (by simp) ?_
 refine AllReadyH.cons (o := { dst := some 8, op := Op.load 33 (Operand.tmp 7), type := 33, pos := "frag.go:45", after := #[{ on := 3, ground := Ground.data }], guard := none }) rfl (fun K hK => ?_) AllReadyH.nil
 go_simp; refine hK.out _ _ (by first | exact HH0.out | exact HSL.out _) (fun hHeld => ?_)
 clear hK K
 try simp only [Act.put, List.setIfInBounds_toArray, List.set_cons_zero, List.set_cons_succ]
 refine wpAnyH_ready (rs := [16]) (by kernel_rfl) (by simp) ?_
 refine AllReadyH.cons (o := { dst := some 20, op := Op.call { callee := Callee.builtin Builtin.append, args := #[Operand.tmp 8, Operand.tmp 19], argTypes := #[33, 33] }, type := 33, pos := "frag.go:45", after := #[{ on := 4, ground := Ground.data }, { on := 15, ground := Ground.data }], guard := none }) rfl (fun K hK => ?_) AllReadyH.nil
 (refine step_app EFault rfl (.tmp 8) (.tmp 19) rfl base (.slice pc fn cc) fn (X.fs.flatMap Ft.cells) rfl (HP7.out.alloc _) _ 1 1 (Ft.cells ⟨file, line, er⟩) rfl rfl (row_newAt _ _ _ _ rfl) (ft_ones _) (by unfold maxLen; omega) (by omega) (by simp; omega) ?_); intro vp' w8 ho8 hg8 hs8; obtain ⟨p8, c8, rfl, -⟩ := own_shape ho8; have HO8 := hid ho8; have HG8 := hid hg8; clear ho8 hg8 hs8; obtain ⟨hh8, ha8⟩ := HC.out.appFault (by rw [HVC.out]; exact HG8.out); have HA8 := hid ha8; have zf4 := frozen_of_row _ _ 4 _ _ hh8; have z4 := cell_of_row _ _ 4 _ _ _ hh8; clear hh8 ha8; refine hK.out _ _ HA8.out (fun hHeld => ?_)
 clear hK K
 try simp only [Act.put, List.setIfInBounds_toArray, List.set_cons_zero, List.set_cons_succ]
 refine wpAnyH_take (i := 17) (oi := { dst := some 21, op := Op.nilCheck (Operand.tmp 4), type := 0, pos := "frag.go:45", after := #[{ on := 0, ground := Ground.data }, { on := 0, ground := Ground.phase }, { on := 1, ground := Ground.phase }, { on := 2, ground := Ground.phase }, { on := 3, ground := Ground.phase }, { on := 4, ground := Ground.phase }, { on := 5, ground := Ground.phase }, { on := 6, ground := Ground.phase }, { on := 7, ground := Ground.phase }, { on := 8, ground := Ground.phase }, { on := 9, ground := Ground.phase }, { on := 10, ground := Ground.phase }, { on := 11, ground := Ground.phase }, { on := 12, ground := Ground.phase }, { on := 13, ground := Ground.phase }, { on := 14, ground := Ground.phase }, { on := 15, ground := Ground.phase }, { on := 16, ground := Ground.phase }], guard := none }) (v := ?fabv17) rfl (by kernel_rfl) (by kernel_rfl) (by kernel_rfl) (fun _ _ _ h => h) (Or.inl ⟨by rfl, ?fabh17⟩) (by assumption) ?fabr17
 case fabh17 => ((intro w hSw; (try dsimp only at hSw); go_simp); try with_reducible rfl)
 try simp only [Act.put, List.setIfInBounds_toArray, List.set_cons_zero, List.set_cons_succ]
 refine wpAnyH_take (i := 18) (oi := { dst := some 22, op := Op.fieldAddr 78 (Operand.tmp 21) 2, type := 0, pos := "frag.go:45", after := #[{ on := 17, ground := Ground.data }, { on := 0, ground := Ground.phase }, { on := 1, ground := Ground.phase }, { on := 2, ground := Ground.phase }, { on := 3, ground := Ground.phase }, { on := 4, ground := Ground.phase }, { on := 5, ground := Ground.phase }, { on := 6, ground := Ground.phase }, { on := 7, ground := Ground.phase }, { on := 8, ground := Ground.phase }, { on := 9, ground := Ground.phase }, { on := 10, ground := Ground.phase }, { on := 11, ground := Ground.phase }, { on := 12, ground := Ground.phase }, { on := 13, ground := Ground.phase }, { on := 14, ground := Ground.phase }, { on := 15, ground := Ground.phase }, { on := 16, ground := Ground.phase }], guard := none }) (v := ?fabv18) rfl (by kernel_rfl) (by kernel_rfl) (by kernel_rfl) (fun _ _ _ h => h) (Or.inl ⟨by rfl, ?fabh18⟩) (by assumption) ?fabr18
 case fabh18 => ((intro w hSw; (try dsimp only at hSw); go_simp); try with_reducible rfl)
 try simp only [Act.put, List.setIfInBounds_toArray, List.set_cons_zero, List.set_cons_succ]
 refine wpAnyH_ready (rs := [19]) (by kernel_rfl) (by simp) ?_
 refine AllReadyH.cons (o := { dst := none, op := Op.store 33 (Operand.tmp 22) (Operand.tmp 20), type := 0, pos := "frag.go:45", after := #[{ on := 18, ground := Ground.data }, { on := 16, ground := Ground.data }, { on := 16, ground := Ground.chain }, { on := 0, ground := Ground.phase }, { on := 1, ground := Ground.phase }, { on := 2, ground := Ground.phase }, { on := 3, ground := Ground.phase }, { on := 4, ground := Ground.phase }, { on := 5, ground := Ground.phase }, { on := 6, ground := Ground.phase }, { on := 7, ground := Ground.phase }, { on := 8, ground := Ground.phase }, { on := 9, ground := Ground.phase }, { on := 10, ground := Ground.phase }, { on := 11, ground := Ground.phase }, { on := 12, ground := Ground.phase }, { on := 13, ground := Ground.phase }, { on := 14, ground := Ground.phase }, { on := 15, ground := Ground.phase }, { on := 16, ground := Ground.phase }], guard := none }) rfl (fun K hK => ?_) AllReadyH.nil
 go_simp; refine hK.out _ _ (HA8.out.set (by decide) _) (fun hHeld => ?_)
 clear hK K
 try simp only [Act.put, List.setIfInBounds_toArray, List.set_cons_zero, List.set_cons_succ]
 refine wpAnyH_done (by kernel_rfl) ?_ _
 go_wp2_with fail
 have hfin := HC.out.finFault ⟨file, line, er⟩ (by rw [HFN.out]; exact HO8.out) (by rw [HVC.out]; exact HG8.out)
 go_end0
 exact ⟨rfl, ⟨_, hfin.1⟩, hfin.2⟩
end Go.Proofs.Ythlingholhjcnaa
namespace Go.Proofs.Ythlingholhjcnaa
open Go.RowKit
section
variable {κ β : Type} [DecidableEq κ] {P : Program} {k : TypeId} {mk : κ → Value} {mv : β → Value}
theorem step_mapset {w : World} {ops : Array Oper} {o : Oper} {a : Act} {K' : Act → World → Prop} {Q : Exit → Act → World → Prop} {C : Prop} {t el : TypeId}
  (K : KeyOk P k mk) (ht : P.underlying t = some (.map k el)) (hg : o.guard = none) (mo xo vo : Operand) (hop : o.op = Op.mapUpdate t mo xo vo ∨ o.op = Op.insert t mo xo vo)
  (b : Nat) (m : List (κ × β)) (hm : a.eval mo = .map (some b)) (h : MapIs mk mv w b m) (x : κ) (hx : a.eval xo = mk x) (u : β) (hu : a.eval vo = mv u)
  (hK : ∀ w', MapIs mk mv w' b (aset m x u) → w.grownBy w' (some b) → K' (a.put o.dst undef) w') : if Region.wanted o (yielded ops a.tmps) = true then Oper.wp P o a w K' Q else C := by
 have hw : Region.wanted o (yielded ops a.tmps) = true := by simp [Region.wanted, hg]
 rw [if_pos hw]
 obtain ⟨w', hrun, r1, r2⟩ := h.run_update K ht x u
 unfold Oper.wp
 rcases hop with hop | hop
 ·simp [execOp, hop, hm, hx, hu, hrun, Result.andThen]
  exact hK w' r1 r2
 ·simp [execOp, hop, hm, hx, hu, hrun, Result.andThen]
  exact hK w' r1 r2
end
end Go.Proofs.Ythlingholhjcnaa
namespace Go.Proofs.Ythlingholhjcnaa
open Go.RowKit
variable {W W' w w' : World} {base m mb : Nat} {X : FV} {file line : Int} {name : ByteArray}
theorem KStr : KeyOk Try.prog 9 Value.string := keyOk_string Try.underlying9
theorem idx_lt {l : List ByteArray} {k : ByteArray} {i : Nat} (h : idxO l k = some i) : i < l.length := by
 unfold idxO at h
 exact (List.findIdx?_eq_some_iff_getElem.1 h).1
def SameH (W w' : World) : Prop := w'.heap = W.heap
theorem SameH.cell {a : Addr} {v : Value} (h : SameH W w') (hc : W.cell? a = some v) : w'.cell? a = some v := by unfold SameH at h; simp only [World.cell?, h] at hc ⊢; exact hc
def PartT (W : World) (base m mb : Nat) (X : FV) (file line : Int) (name : ByteArray) (e : Ending) (w' : World) : Prop :=
 ∃ (X' : FV) (i g c : Nat), e = .returned (.tuple #[.pointer (some ⟨g, i * 4, none⟩), .int .i64 (i : Nat)]) ∧ X'.pv = .slice (some ⟨g, 0, none⟩) X'.ps.length c ∧ i < X'.ps.length ∧ CIs w' base m mb X' file line name ∧ TrnP isPM base W w' ∧ X'.ms = X.ms ∧ X'.gs = X.gs ∧ X'.fs = X.fs ∧ X'.mv = X.mv ∧ X'.gv = X.gv ∧ X'.fv = X.fv ∧
  ((X'.ps = X.ps ∧ idxO (X.ps.map PtR.name) name = some i) ∨ (X'.ps = X.ps ++ [⟨name, file, line, ⟨none, 0, []⟩⟩] ∧ i = X.ps.length ∧ idxO (X.ps.map PtR.name) name = none))
set_option maxRecDepth 20000 in
set_option maxHeartbeats 4000000 in
theorem part_old (h : CIs W base m mb X file line name) (hn : X.ps.length ≤ 1000000000) {i : Nat} (hi : idxO (X.ps.map PtR.name) name = some i) :
  Calls Try.prog 37 #[.pointer (some ⟨m, 0, none⟩)] W (PartT W base m mb X file line name) := by
 obtain ⟨c0, c1, c2, c3, c4, hfl⟩ := h.cells
 have HC := hid h
 have hil : i < X.ps.length := by have := idx_lt hi; simpa using this
 obtain ⟨g, c, hpv, hge, hlt, hcap, hcm⟩ := own_block h.is.parts (by omega)
 rw [hpv] at c0
 have c7 := hfl.n
 have HI := hid hi
 have HPV := hid hpv
 obtain ⟨am, hm, ha⟩ := h.mp
 have hlk : ∀ w1 : World, w1.heap = W.heap → (Instr.lookup 76 (.map (some mb)) (.string name) true).run Try.prog w1 = .ok (.tuple #[.int .i64 (i : Nat), .bool true]) w1 := fun w1 hw => by
  have hm1 : MapIs Value.string natV w1 mb am := by obtain ⟨es, cl, e, F⟩ := hm; exact ⟨es, cl, by rw [hw]; exact e, F⟩
  have hr := hm1.run_lookup KStr Try.underlying76 (show (zeroValue 3).run Try.prog w1 = .ok (.int .i64 0) w1 by kernel_rfl) name true
  rw [ha, hi] at hr
  exact hr
 have a3 : ∀ w1 : World, SameH W w1 → w1.cell? ⟨m, 3, none⟩ = some (.map (some mb)) := fun w1 hw => hw.cell c3
 have a7 : ∀ w1 : World, SameH W w1 → w1.cell? ⟨m, 7, none⟩ = some (.string name) := fun w1 hw => hw.cell c7
 have alk : ∀ w1 : World, SameH W w1 → (Instr.lookup 76 (.map (some mb)) (.string name) true).run Try.prog w1 = .ok (.tuple #[.int .i64 (i : Nat), .bool true]) w1 := fun w1 hw => hlk w1 hw
 have hHeld0 : SameH W W.drew := rfl
 have HIL := hid hil
 have hii : (i : Int) < X.ps.length := by omega
 clear h hfl hi hpv ha hm hlk
 unfold maxLen at hcm
 generalize hnn : X.ps.length = n at *
 have HNN := hid hnn
 clear hnn
 go_enter Try.func37, Try.ntmps37
 go_upto_region 1 with (fail)
 refine wp_region_held_drew (S := SameH W) (by kernel_rfl) hHeld0 (fun hHeld => ?_)
 refine wpAnyH_take (i := 0) (oi := { dst := some 7, op := Op.move (Operand.tmp 0), type := 75, pos := "frag.go:50", after := #[], guard := none }) (v := ?pav0) rfl (by kernel_rfl) (by kernel_rfl) (by kernel_rfl) (fun _ _ _ h => h) (Or.inl ⟨by rfl, ?pah0⟩) (by assumption) ?par0
 case pah0 => ((intro w hSw; (try dsimp only at hSw); go_simp); try with_reducible rfl)
 try simp only [Act.put, List.setIfInBounds_toArray, List.set_cons_zero, List.set_cons_succ]
 refine wpAnyH_take (i := 1) (oi := { dst := some 8, op := Op.nilCheck (Operand.tmp 7), type := 0, pos := "frag.go:50", after := #[{ on := 0, ground := Ground.data }], guard := none }) (v := ?pav1) rfl (by kernel_rfl) (by kernel_rfl) (by kernel_rfl) (fun _ _ _ h => h) (Or.inl ⟨by rfl, ?pah1⟩) (by assumption) ?par1
 case pah1 => ((intro w hSw; (try dsimp only at hSw); go_simp); try with_reducible rfl)
 try simp only [Act.put, List.setIfInBounds_toArray, List.set_cons_zero, List.set_cons_succ]
 refine wpAnyH_take (i := 2) (oi := { dst := some 9, op := Op.fieldAddr 78 (Operand.tmp 8) 1, type := 0, pos := "frag.go:50", after := #[{ on := 1, ground := Ground.data }], guard := none }) (v := ?pav2) rfl (by kernel_rfl) (by kernel_rfl) (by kernel_rfl) (fun _ _ _ h => h) (Or.inl ⟨by rfl, ?pah2⟩) (by assumption) ?par2
 case pah2 => ((intro w hSw; (try dsimp only at hSw); go_simp); try with_reducible rfl)
 try simp only [Act.put, List.setIfInBounds_toArray, List.set_cons_zero, List.set_cons_succ]
 refine wpAnyH_take (i := 3) (oi := { dst := some 10, op := Op.load 76 (Operand.tmp 9), type := 76, pos := "frag.go:50", after := #[{ on := 2, ground := Ground.data }], guard := none }) (v := ?pav3) rfl (by kernel_rfl) (by kernel_rfl) (by kernel_rfl) (fun _ _ _ h => h) (Or.inl ⟨by rfl, ?pah3⟩) (by assumption) ?par3
 case pah3 => ((intro w hSw; (try dsimp only at hSw); go_simp); try with_reducible rfl)
 try simp only [Act.put, List.setIfInBounds_toArray, List.set_cons_zero, List.set_cons_succ]
 refine wpAnyH_take (i := 4) (oi := { dst := some 11, op := Op.move (Operand.tmp 0), type := 75, pos := "frag.go:50", after := #[], guard := none }) (v := ?pav4) rfl (by kernel_rfl) (by kernel_rfl) (by kernel_rfl) (fun _ _ _ h => h) (Or.inl ⟨by rfl, ?pah4⟩) (by assumption) ?par4
 case pah4 => ((intro w hSw; (try dsimp only at hSw); go_simp); try with_reducible rfl)
 try simp only [Act.put, List.setIfInBounds_toArray, List.set_cons_zero, List.set_cons_succ]
 refine wpAnyH_take (i := 5) (oi := { dst := some 12, op := Op.nilCheck (Operand.tmp 11), type := 0, pos := "frag.go:50", after := #[{ on := 4, ground := Ground.data }], guard := none }) (v := ?pav5) rfl (by kernel_rfl) (by kernel_rfl) (by kernel_rfl) (fun _ _ _ h => h) (Or.inl ⟨by rfl, ?pah5⟩) (by assumption) ?par5
 case pah5 => ((intro w hSw; (try dsimp only at hSw); go_simp); try with_reducible rfl)
 try simp only [Act.put, List.setIfInBounds_toArray, List.set_cons_zero, List.set_cons_succ]
 refine wpAnyH_take (i := 6) (oi := { dst := some 13, op := Op.fieldAddr 78 (Operand.tmp 12) 5, type := 0, pos := "frag.go:50", after := #[{ on := 5, ground := Ground.data }], guard := none }) (v := ?pav6) rfl (by kernel_rfl) (by kernel_rfl) (by kernel_rfl) (fun _ _ _ h => h) (Or.inl ⟨by rfl, ?pah6⟩) (by assumption) ?par6
 case pah6 => ((intro w hSw; (try dsimp only at hSw); go_simp); try with_reducible rfl)
 try simp only [Act.put, List.setIfInBounds_toArray, List.set_cons_zero, List.set_cons_succ]
 refine wpAnyH_take (i := 7) (oi := { dst := some 14, op := Op.load 9 (Operand.tmp 13), type := 9, pos := "frag.go:50", after := #[{ on := 6, ground := Ground.data }], guard := none }) (v := ?pav7) rfl (by kernel_rfl) (by kernel_rfl) (by kernel_rfl) (fun _ _ _ h => h) (Or.inl ⟨by rfl, ?pah7⟩) (by assumption) ?par7
 case pah7 => ((intro w hSw; (try dsimp only at hSw); go_simp); try with_reducible rfl)
 try simp only [Act.put, List.setIfInBounds_toArray, List.set_cons_zero, List.set_cons_succ]
 refine wpAnyH_take (i := 8) (oi := { dst := some 15, op := Op.lookup 76 (Operand.tmp 10) (Operand.tmp 14) true, type := 92, pos := "frag.go:50", after := #[{ on := 3, ground := Ground.data }, { on := 7, ground := Ground.data }], guard := none }) (v := ?pav8) rfl (by kernel_rfl) (by kernel_rfl) (by kernel_rfl) (fun _ _ _ h => h) (Or.inl ⟨by rfl, ?pah8⟩) (by assumption) ?par8
 case pah8 => ((intro w hSw; (try dsimp only at hSw); go_simp); try with_reducible rfl)
 try simp only [Act.put, List.setIfInBounds_toArray, List.set_cons_zero, List.set_cons_succ]
 refine wpAnyH_take (i := 9) (oi := { dst := some 6, op := Op.move (Operand.tmp 15), type := 92, pos := "frag.go:50", after := #[{ on := 8, ground := Ground.data }], guard := none }) (v := ?pav9) rfl (by kernel_rfl) (by kernel_rfl) (by kernel_rfl) (fun _ _ _ h => h) (Or.inl ⟨by rfl, ?pah9⟩) (by assumption) ?par9
 case pah9 => ((intro w hSw; (try dsimp only at hSw); go_simp); try with_reducible rfl)
 try simp only [Act.put, List.setIfInBounds_toArray, List.set_cons_zero, List.set_cons_succ]
 refine wpAnyH_take (i := 10) (oi := { dst := some 16, op := Op.extract (Operand.tmp 6) 0, type := 3, pos := "frag.go:50", after := #[{ on := 9, ground := Ground.data }], guard := none }) (v := ?pav10) rfl (by kernel_rfl) (by kernel_rfl) (by kernel_rfl) (fun _ _ _ h => h) (Or.inl ⟨by rfl, ?pah10⟩) (by assumption) ?par10
 case pah10 => ((intro w hSw; (try dsimp only at hSw); go_simp); try with_reducible rfl)
 try simp only [Act.put, List.setIfInBounds_toArray, List.set_cons_zero, List.set_cons_succ]
 refine wpAnyH_take (i := 11) (oi := { dst := some 17, op := Op.extract (Operand.tmp 6) 1, type := 4, pos := "frag.go:50", after := #[{ on := 9, ground := Ground.data }, { on := 12, ground := Ground.gcOnly Departure.lateStores }], guard := none }) (v := ?pav11) rfl (by kernel_rfl) (by kernel_rfl) (by kernel_rfl) (fun _ _ _ h => h) (Or.inl ⟨by rfl, ?pah11⟩) (by assumption) ?par11
 case pah11 => ((intro w hSw; (try dsimp only at hSw); go_simp); try with_reducible rfl)
 try simp only [Act.put, List.setIfInBounds_toArray, List.set_cons_zero, List.set_cons_succ]
 refine wpAnyH_take (i := 12) (oi := { dst := some 4, op := Op.assign (Operand.tmp 16), type := 3, pos := "frag.go:50", after := #[{ on := 10, ground := Ground.data }, { on := 0, ground := Ground.phase }, { on := 1, ground := Ground.phase }, { on := 2, ground := Ground.phase }, { on := 3, ground := Ground.phase }, { on := 4, ground := Ground.phase }, { on := 5, ground := Ground.phase }, { on := 6, ground := Ground.phase }, { on := 7, ground := Ground.phase }, { on := 8, ground := Ground.phase }, { on := 9, ground := Ground.phase }, { on := 10, ground := Ground.phase }, { on := 11, ground := Ground.textOnly Departure.lateStores }], guard := none }) (v := ?pav12) rfl (by kernel_rfl) (by kernel_rfl) (by kernel_rfl) (fun _ _ _ h => h) (Or.inl ⟨by rfl, ?pah12⟩) (by assumption) ?par12
 case pah12 => ((intro w hSw; (try dsimp only at hSw); go_simp); try with_reducible rfl)
 try simp only [Act.put, List.setIfInBounds_toArray, List.set_cons_zero, List.set_cons_succ]
 refine wpAnyH_take (i := 13) (oi := { dst := some 5, op := Op.assign (Operand.tmp 17), type := 4, pos := "frag.go:50", after := #[{ on := 11, ground := Ground.data }, { on := 12, ground := Ground.chain }, { on := 0, ground := Ground.phase }, { on := 1, ground := Ground.phase }, { on := 2, ground := Ground.phase }, { on := 3, ground := Ground.phase }, { on := 4, ground := Ground.phase }, { on := 5, ground := Ground.phase }, { on := 6, ground := Ground.phase }, { on := 7, ground := Ground.phase }, { on := 8, ground := Ground.phase }, { on := 9, ground := Ground.phase }, { on := 10, ground := Ground.phase }, { on := 11, ground := Ground.phase }, { on := 12, ground := Ground.phase }], guard := none }) (v := ?pav13) rfl (by kernel_rfl) (by kernel_rfl) (by kernel_rfl) (fun _ _ _ h => h) (Or.inl ⟨by rfl, ?pah13⟩) (by assumption) ?par13
 case pah13 => ((intro w hSw; (try dsimp only at hSw); go_simp); try with_reducible rfl)
 try simp only [Act.put, List.setIfInBounds_toArray, List.set_cons_zero, List.set_cons_succ]
 refine wpAnyH_done (by kernel_rfl) ?_ _
 go_wp2_with fail
 go_ret2
 refine ⟨X, i, g, c, rfl, by rw [HNN.out]; exact HPV.out, by rw [HNN.out]; exact HIL.out, HC.out.below (Below.refl _ _).drew, TrnP.below (Below.refl _ _).drew HC.out.hz, rfl, rfl, rfl, rfl, rfl, rfl, .inl ⟨rfl, HI.out⟩⟩
end Go.Proofs.Ythlingholhjcnaa
