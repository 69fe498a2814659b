/-
 Both One's units: Same and Equal answer true.
 The law's begun: its one row, and what One makes of it.
 One's unit in begun, in plain words.
 A range over a function within an iterator: an iterator's contract whose own steps may turn blocks of book-keeping that it laid itself; the law of the loop over it.
 A map's lookup and update at the operation, within a fence; the book-keeping of a range over a function that leaves cells of some types alone.
 frag.branch: what it answers.
 Append and make at the operation, within a fence.
 slices.Backward over marks: what its function yields.
 frag.Items: a part's items.
-/
import Derived.Test.YthlingholhjcnaaJJ8
import Derived.RangeFuncNested
import Derived.RangeFuncBound
import Derived.RangeFuncCalls
import Derived.RangeFuncLeaves
import Derived.Test.YthlingholhjcnaaJJ0
import Derived.OwnWalkIn
import Derived.Laws.AppendOwnNone
import Derived.WalkMore
import Derived.LoopNIn
import Derived.LoopIn
import Derived.TacticsInMore
import Derived.Shelf.Abstract
import Derived.Deep.CutBlock
namespace Go.Proofs.Ythlingholhjcnaa
open Go.RowKit
variable {W W' w w' : World} {base : Nat} {X X' : FV}
structure UnRd (W : World) (X : FV) : Prop where
 pv : ∃ p c, X.pv = .slice p X.ps.length c ∧ Row W p (X.ps.flatMap PtR.cells)
 mv : ∃ p c, X.mv = .slice p X.ms.length c ∧ Row W p (X.ms.flatMap Mk.cells)
 gv : ∃ p c, X.gv = .slice p X.gs.length c ∧ Row W p (X.gs.flatMap Td.cells)
 fv : ∃ p c, X.fv = .slice p X.fs.length c ∧ Row W p (X.fs.flatMap Ft.cells)
 pts : ∀ y ∈ X.ps, PtRd W y
 sm : Sm X 1000000000000
theorem Row.of_val {s : Sl PcR} {n : Nat} {xs : List Value} (h : W.ownsRow base 64 11 s.val n xs) : Row W s.p xs := by
 obtain ⟨p, c, e, hr⟩ := own_shape h
 have e : Value.slice s.p s.l.length s.c = .slice p n c := e
 cases e
 exact hr
theorem FIs.rd {n : Nat} (h : FIs W base X) (hs : Sm X n) (hn : n ≤ 1000000000000) : UnRd W X :=
 ⟨own_shape h.parts, own_shape h.marks, own_shape h.globals, own_shape h.faults, fun y hy => by
  obtain ⟨i, hi, rfl⟩ := List.getElem_of_mem hy
  exact ⟨Row.of_val (h.pcs i _ (List.getElem?_eq_getElem hi)), Nat.le_trans (hs.pcs _ hy) hn, fun x hx => ⟨(h.pok _ hy x hx).op, (h.pok _ hy x hx).b⟩⟩,
  ⟨Nat.le_trans hs.ps hn, Nat.le_trans hs.ms hn, Nat.le_trans hs.gs hn, Nat.le_trans hs.fs hn, fun y hy => Nat.le_trans (hs.pcs y hy) hn⟩⟩
theorem UnRd.below (h : UnRd W X) (hb : Below W.heap.size W w) : UnRd w X := by
 obtain ⟨⟨p, c, e, r⟩, ⟨p1, c1, e1, q1⟩, ⟨p2, c2, e2, q2⟩, ⟨p3, c3, e3, q3⟩, h5, h6⟩ := h
 exact ⟨⟨p, c, e, r.below hb⟩, ⟨p1, c1, e1, q1.below hb⟩, ⟨p2, c2, e2, q2.below hb⟩, ⟨p3, c3, e3, q3.below hb⟩, fun y hy => (h5 y hy).below hb, h6⟩
theorem same_rd (h1 : UnRd W X) (h2 : UnRd W X') (he : X.pl = X'.pl) : Calls Try.prog 13 #[.agg #[X.pv, X.mv, X.gv], .agg #[X'.pv, X'.mv, X'.gv]] W fun e w' => e = .returned (.bool true) ∧ Below W.heap.size W w' := by
 obtain ⟨⟨pa, ca, e1, r1⟩, ⟨ma, da, e2, r2⟩, ⟨ga, ea, e3, r3⟩, -, t1, s1⟩ := h1
 obtain ⟨⟨pb, cb, f1, q1⟩, ⟨mb, db, f2, q2⟩, ⟨gb, eb, f3, q3⟩, -, t2, s2⟩ := h2
 have hm : X'.ms = X.ms := (congrArg FP.ms he).symm
 have hg : X'.gs = X.gs := (congrArg FP.gs he).symm
 rw [hm] at f2 q2
 rw [hg] at f3 q3
 rw [e1, e2, e3, f1, f2, f3]
 exact same_any pa pb ma mb ga gb ca cb da db ea eb X.ps X'.ps X.ms X.gs r1 q1 r2 q2 r3 q3 t1 t2 s1.ps s1.ms s1.gs (congrArg FP.ps he)
end Go.Proofs.Ythlingholhjcnaa
namespace Go.Proofs.Ythlingholhjcnaa
open Go.RowKit
variable {W W' w w' : World}
def opB : Oc := ⟨3, ⟨0, false, false⟩, ⟨0, false, false⟩, 0, 0, 0, ⟨0, ⟨#[97]⟩, ⟨#[]⟩⟩, false, 0⟩
def rowB (n : Nat) : RwR := ⟨1, ⟨⟨some ⟨n + 1 + 1, 0, none⟩, 1, [⟨#[97]⟩]⟩, 1, ⟨⟨#[98, 46, 101, 113]⟩, ⟨some ⟨n, 0, none⟩, 1, [opB]⟩⟩, ⟨none, 0, []⟩, 0, ⟨none, 0, []⟩, ⟨none, 0, []⟩⟩⟩
structure Bg (W W4 : World) : Prop where
 eq : W4 = (((W.alloc (.cells #[.int .i64 3, .int .i64 0, .bool false, .bool false, .int .i64 0, .bool false, .bool false, .int .i64 0, .int .i64 0, .int .i64 0, .int .i64 0, .string ⟨#[97]⟩, .string ⟨#[]⟩, .bool false, .int .i64 0] 72)).alloc (.cells #[.string ⟨#[98, 46, 101, 113]⟩, .slice (some ⟨W.heap.size, 0, none⟩) 1 1] 25)).alloc (.cells #[.string ⟨#[97]⟩] 9)).alloc (.cells #[.int .i64 1, .slice (some ⟨W.heap.size + 1 + 1, 0, none⟩) 1 1, .int .i64 1, .string ⟨#[98, 46, 101, 113]⟩, .slice (some ⟨W.heap.size, 0, none⟩) 1 1, .slice none 0 0, .int .i64 0, .slice none 0 0, .slice none 0 0] 59)
 w : Below W.heap.size W W4
 one : Calls Try.prog 9 #[.int .i64 0, .slice (some ⟨W.heap.size + 1 + 1 + 1, 0, none⟩) 1 1] W4 (OneT W4 (FP.rows 0 [rowB W.heap.size]).1 (costs [rowB W.heap.size]))
theorem row_blkAt {b : Nat} {xs : List Value} {T : TypeId} {fz : Nat × Nat} (h : W.heap[b]? = some (.cells xs.toArray T fz)) : Row W (some ⟨b, 0, none⟩) xs := fun _ => ⟨b, 0, rfl, fun i hi => by
 rw [Nat.zero_add]
 simp [World.cell?, h, hi]⟩
theorem bg (W : World) : ∃ W4, Bg W W4 := by
 obtain ⟨W4, hW4⟩ : ∃ W4, W4 = (((W.alloc (.cells #[.int .i64 3, .int .i64 0, .bool false, .bool false, .int .i64 0, .bool false, .bool false, .int .i64 0, .int .i64 0, .int .i64 0, .int .i64 0, .string ⟨#[97]⟩, .string ⟨#[]⟩, .bool false, .int .i64 0] 72)).alloc (.cells #[.string ⟨#[98, 46, 101, 113]⟩, .slice (some ⟨W.heap.size, 0, none⟩) 1 1] 25)).alloc (.cells #[.string ⟨#[97]⟩] 9)).alloc (.cells #[.int .i64 1, .slice (some ⟨W.heap.size + 1 + 1, 0, none⟩) 1 1, .int .i64 1, .string ⟨#[98, 46, 101, 113]⟩, .slice (some ⟨W.heap.size, 0, none⟩) 1 1, .slice none 0 0, .int .i64 0, .slice none 0 0, .slice none 0 0] 59) := ⟨_, rfl⟩
 have hb : Below W.heap.size W W4 := by rw [hW4]; exact ((((Below.refl _ _).alloc (Nat.le_refl _) _).alloc (by simp) _).alloc (by simp <;> omega) _).alloc (by simp <;> omega) _
 have k0 : W4.heap[W.heap.size]? = some (.cells opB.cells.toArray 72 (0, 0)) := by
  rw [hW4]; exact (Below.heap_alloc _ _ _ (by simp <;> omega)).trans ((Below.heap_alloc _ _ _ (by simp <;> omega)).trans ((Below.heap_alloc _ _ _ (by simp)).trans (heap_alloc_new _ _)))
 have k2 : W4.heap[W.heap.size + 1 + 1]? = some (.cells #[.string ⟨#[97]⟩] 9 (0, 0)) := by
  rw [hW4]; exact (Below.heap_alloc _ _ _ (by simp <;> omega)).trans (heap_newAt _ _ _ (by simp))
 have k3 : W4.heap[W.heap.size + 1 + 1 + 1]? = some (.cells (rowB W.heap.size).cells.toArray 59 (0, 0)) := by
  rw [hW4]; exact heap_newAt _ _ _ (by simp)
 refine ⟨W4, hW4, hb, one_any 0 (some ⟨W.heap.size + 1 + 1 + 1, 0, none⟩) 1 [rowB W.heap.size] W4 (by rw [List.flatMap_cons, List.flatMap_nil, List.append_nil]; exact row_blkAt k3) ?_ (by simp) (by show costs [rowB 0] ≤ 3000000; decide)⟩
 intro r hr
 rw [List.mem_singleton.1 hr]
 unfold rowB
 refine ⟨⟨⟨row_blkAt k2, by (first | decide | (dsimp only; decide) | (dsimp only; simp; done)), by (first | decide | (dsimp only; decide) | (dsimp only; simp; done)), fun h => by cases h⟩, fun s hs => by rw [List.mem_singleton.1 hs]; decide⟩, by (unfold inI64; first | decide | (dsimp only; decide) | (simp; done)), ⟨by (first | decide | (dsimp only; decide) | (dsimp only; simp; done)), ⟨row_blkAt k0, by (first | decide | (dsimp only; decide) | (dsimp only; simp; done)), by (first | decide | (dsimp only; decide) | (dsimp only; simp; done)), fun h => by cases h⟩, fun y hy => ?_⟩, ⟨⟨Row.nil _ _, by (first | decide | (dsimp only; decide) | (dsimp only; simp; done)), by (first | decide | (dsimp only; decide) | (dsimp only; simp; done)), fun _ => rfl⟩, fun s hs => by cases hs⟩, by (unfold inI64; first | decide | (dsimp only; decide) | (simp; done)), ⟨⟨Row.nil _ _, by (first | decide | (dsimp only; decide) | (dsimp only; simp; done)), by (first | decide | (dsimp only; decide) | (dsimp only; simp; done)), fun _ => rfl⟩, fun s hs => by cases hs⟩, ⟨⟨Row.nil _ _, by (first | decide | (dsimp only; decide) | (dsimp only; simp; done)), by (first | decide | (dsimp only; decide) | (dsimp only; simp; done)), fun _ => rfl⟩, fun s hs => by cases hs⟩⟩
 rw [List.mem_singleton.1 hy]
 exact ⟨by (unfold inI64; first | decide | (dsimp only; decide) | (simp; done)), ⟨by (unfold inI64; first | decide | (dsimp only; decide) | (simp; done))⟩, ⟨by (unfold inI64; first | decide | (dsimp only; decide) | (simp; done))⟩, by (unfold inI64; first | decide | (dsimp only; decide) | (simp; done)), by (unfold inI64; first | decide | (dsimp only; decide) | (simp; done)), by (unfold inI64; first | decide | (dsimp only; decide) | (simp; done)), ⟨by (unfold inI64; first | decide | (dsimp only; decide) | (simp; done)), by (first | decide | (dsimp only; decide) | (dsimp only; simp; done)), by (first | decide | (dsimp only; decide) | (dsimp only; simp; done))⟩, by (unfold inI64; first | decide | (dsimp only; decide) | (simp; done))⟩
end Go.Proofs.Ythlingholhjcnaa
namespace Go.Proofs.Ythlingholhjcnaa
open Go.RowKit
variable {W W' w w' : World}
def pcB (k : Int) : Pc := ⟨k, 0, 1, ⟨#[98, 46, 101, 113]⟩, [opB], v00, 0, [], 0⟩
theorem rowsB (n : Nat) : (FP.rows 0 [rowB n]).1 = ⟨[⟨text0, 0, 1, [pcB 2]⟩], [⟨⟨#[97]⟩, 0, 1, 0, 0, false, v00⟩], [], []⟩ := by
 kernel_rfl
end Go.Proofs.Ythlingholhjcnaa
namespace Go.Proofs.Ythlingholhjcnaa
open Go.RowKit
variable {F : Fence} {n : Nat} {P : Program}
end Go.Proofs.Ythlingholhjcnaa
namespace Go.Proofs.Ythlingholhjcnaa
open Go.RowKit
section
variable {κ β : Type} [DecidableEq κ] {P : Program} {k : TypeId} {mk : κ → Value} {mv : β → Value}
theorem wpListIn_mapset {F : Fence} {fn : Nat} {w : World} {ops : Array Oper} {rest : List Oper} {o : Oper} {a : Act} {Q : Exit → Act → World → Prop} {t el : TypeId}
  (K : KeyOk P k mk) (ht : P.underlying t = some (.map k el)) (hg : o.guard = none) (mo xo vo : Operand) (hop : o.op = Op.mapUpdate t mo xo vo ∨ o.op = Op.insert t mo xo vo)
  (b : Nat) (m : List (κ × β)) (hm : a.eval mo = .map (some b)) (h : MapIs mk mv w b m) (x : κ) (hx : a.eval xo = mk x) (u : β) (hu : a.eval vo = mv u)
  (hK : ∀ w', MapIs mk mv w' b (aset m x u) → w.grownBy w' (some b) → wpListIn F fn P ops Q rest (a.put o.dst undef) w') : wpListIn F fn P ops Q (o :: rest) a w := by
 refine wpListIn_plain hg fun K' hK' => ?_
 obtain ⟨w', hrun, r1, r2⟩ := h.run_update K ht x u
 unfold Oper.wpIn
 rcases hop with hop | hop
 ·refine ⟨?_, ?_⟩
  ·simp [Oper.about, hop]
  ·rw [Oper.semAt_plain F _ _ (by rw [hop]; intro c hc'; cases hc')]
   simp [execOp, hop, hm, hx, hu, hrun, Result.andThen]
   exact hK' _ _ (hK w' r1 r2)
 ·refine ⟨?_, ?_⟩
  ·simp [Oper.about, hop]
  ·rw [Oper.semAt_plain F _ _ (by rw [hop]; intro c hc'; cases hc')]
   simp [execOp, hop, hm, hx, hu, hrun, Result.andThen]
   exact hK' _ _ (hK w' r1 r2)
end
def KpT (n₀ : Nat) (S : TypeId → Bool) (W W' : World) : Prop := Below n₀ W W' ∧ W.heap.size ≤ W'.heap.size ∧ ∀ (k : Nat) (cs : Array Value) (T : TypeId) (fz : Nat × Nat), S T = true → W.heap[k]? = some (.cells cs T fz) → W'.heap[k]? = some (.cells cs T fz)
theorem KpT.trans {n₀ : Nat} {S : TypeId → Bool} {A B C : World} (h : KpT n₀ S A B) (k : KpT n₀ S B C) : KpT n₀ S A C := ⟨h.1.trans k.1, Nat.le_trans h.2.1 k.2.1, fun i cs T fz hs hi => k.2.2 i cs T fz hs (h.2.2 i cs T fz hs hi)⟩
theorem KpT.putObj {n₀ : Nat} {S : TypeId → Bool} {w : World} (hn : n₀ ≤ w.heap.size) (W : World) (l : Nat) (o o' : Obj) (hl : w.heap.size ≤ l) (h : W.heap[l]? = some o) (hc : o.isCells = false) (hw : o.isWalk = false) : KpT n₀ S W (W.putObj l o') :=
 ⟨belowK_b hn W l o o' hl h hc hw, by simp, fun k cs T fz _ hk => (World.putObj_heap_other (fun e => by subst e; rw [hk] at h; cases h; simp [Obj.isCells] at hc)).trans hk⟩
theorem KpT.alloc {n₀ : Nat} {S : TypeId → Bool} (W : World) (hn : n₀ ≤ W.heap.size) (o : Obj) : KpT n₀ S W (W.alloc o) :=
 ⟨(Below.refl _ _).alloc hn _, by simp, fun k _ _ _ _ hk => (Below.heap_alloc _ _ _ (Array.getElem?_eq_some_iff.1 hk).1).trans hk⟩
theorem KpT.grown {n₀ : Nat} {S : TypeId → Bool} {W W' : World} {row : Option Nat} (hg : W.grownBy W' row) (hn : n₀ ≤ W.heap.size) (hr : ∀ k, row = some k → n₀ ≤ k ∧ ∀ cs T fz, S T = true → W.heap[k]? ≠ some (.cells cs T fz)) : KpT n₀ S W W' :=
 ⟨(Below.refl _ _).grown hg hn (fun k e => (hr k e).1), hg.size, fun k cs T fz hT hk => (hg.block k (Array.getElem?_eq_some_iff.1 hk).1 (fun e => (hr k e.symm).2 cs T fz hT hk)).trans hk⟩
end Go.Proofs.Ythlingholhjcnaa
namespace Go.Proofs.Ythlingholhjcnaa
open Go.RowKit
variable {W W' w w' : World}
def Mk.val (k : Mk) : Value := .agg k.cells.toArray
structure Itm where
 kind : Int
 size : Int
 align : Int
 dest : Int
 add : Int
 low : Int
 high : Int
 deriving DecidableEq
def Itm.cells (x : Itm) : List Value := [.int .i64 x.kind, .int .i64 x.size, .int .i64 x.align, .int .i64 x.dest, .int .i64 x.add, .int .i64 x.low, .int .i64 x.high]
def Itm.zero : Itm := ⟨0, 0, 0, 0, 0, 0, 0⟩
def brP (lk : ByteArray → Option Mk) (part : Int) (n : ByteArray) (l : List Oc) : Option Itm :=
 if (growsP n l).2.2 then match l.getLast? with
  | none => none
  | some o => match lk o.v.plus with
   | none => none
   | some k => if k.equ || (k.part != part) then none else some ⟨3, 0, 0, k.piece, o.v.add, (growsP n l).1, (growsP n l).2.1⟩
 else none
def BrT (lk : ByteArray → Option Mk) (part : Int) (n : ByteArray) (l : List Oc) (w : World) (e : Ending) (w' : World) : Prop := e = .returned (.tuple #[.agg ((brP lk part n l).getD Itm.zero).cells.toArray, .bool (brP lk part n l).isSome]) ∧ Below w.heap.size w w'
theorem growsP_last {n : ByteArray} {l : List Oc} (h : (growsP n l).2.2 = true) : l ≠ [] := fun e => by subst e; simp [growsP] at h
theorem zeroMk (w : World) : (zeroValue 81).run Try.prog w = .ok (.agg #[.string .empty, .int .i64 0, .int .i64 0, .int .i64 0, .int .i64 0, .bool false, .int .i64 0, .string .empty, .string .empty]) w := by kernel_rfl
theorem itm_cells {g : Nat} {x : Itm} (h : W.heap[g]? = some (.cells x.cells.toArray 74 (0, 0))) : W.cell? ⟨g, 0, none⟩ = some (.int .i64 x.kind) ∧ W.cell? ⟨g, 1, none⟩ = some (.int .i64 x.size) ∧ W.cell? ⟨g, 2, none⟩ = some (.int .i64 x.align) ∧ W.cell? ⟨g, 3, none⟩ = some (.int .i64 x.dest) ∧ W.cell? ⟨g, 4, none⟩ = some (.int .i64 x.add) ∧ W.cell? ⟨g, 5, none⟩ = some (.int .i64 x.low) ∧ W.cell? ⟨g, 6, none⟩ = some (.int .i64 x.high) :=
 ⟨cell_of_row _ _ 0 _ _ _ h, cell_of_row _ _ 1 _ _ _ h, cell_of_row _ _ 2 _ _ _ h, cell_of_row _ _ 3 _ _ _ h, cell_of_row _ _ 4 _ _ _ h, cell_of_row _ _ 5 _ _ _ h, cell_of_row _ _ 6 _ _ _ h⟩
theorem itm_frozen {g : Nat} {x : Itm} (h : W.heap[g]? = some (.cells x.cells.toArray 74 (0, 0))) : W.frozen? ⟨g, 0, none⟩ = false ∧ W.frozen? ⟨g, 1, none⟩ = false ∧ W.frozen? ⟨g, 2, none⟩ = false ∧ W.frozen? ⟨g, 3, none⟩ = false ∧ W.frozen? ⟨g, 4, none⟩ = false ∧ W.frozen? ⟨g, 5, none⟩ = false ∧ W.frozen? ⟨g, 6, none⟩ = false :=
 ⟨frozen_of_row _ _ 0 _ _ h, frozen_of_row _ _ 1 _ _ h, frozen_of_row _ _ 2 _ _ h, frozen_of_row _ _ 3 _ _ h, frozen_of_row _ _ 4 _ _ h, frozen_of_row _ _ 5 _ _ h, frozen_of_row _ _ 6 _ _ h⟩
theorem below_itm {B g : Nat} {W2 : World} (h : Below B W W2) (hB : B ≤ g) (hz : B ≤ W2.heap.size) (v0 v1 v2 v3 v4 v5 v6 : Value) (o1 o2 : Obj) :
  Below B W (((((((((W2.setCell ⟨g, 0, none⟩ v0).setCell ⟨g, 1, none⟩ v1).setCell ⟨g, 2, none⟩ v2).setCell ⟨g, 3, none⟩ v3).setCell ⟨g, 4, none⟩ v4).setCell ⟨g, 5, none⟩ v5).setCell ⟨g, 6, none⟩ v6).alloc o1).alloc o2) := by
 refine Below.alloc (Below.alloc (Below.setCell (p := ⟨g, 6, none⟩) (Below.setCell (p := ⟨g, 5, none⟩) (Below.setCell (p := ⟨g, 4, none⟩) (Below.setCell (p := ⟨g, 3, none⟩) (Below.setCell (p := ⟨g, 2, none⟩) (Below.setCell (p := ⟨g, 1, none⟩) (Below.setCell (p := ⟨g, 0, none⟩) h hB v0) hB v1) hB v2) hB v3) hB v4) hB v5) hB v6) ?_ o1) ?_ o2 <;> simp <;> omega
set_option maxRecDepth 20000 in
set_option maxHeartbeats 4000000 in
theorem branch_any (x : LnR) (h : SlOk W Oc.cells 120 x.opers) (part : Int) (mb : Nat) (am : List (ByteArray × Mk)) (hm : MapIs Value.string Mk.val W mb am) (hmb : mb < W.heap.size) :
  Calls Try.prog 31 #[.map (some mb), .int .i64 part, .agg x.cells.toArray] W (BrT (alook am) part x.name x.opers.l W) := by
 obtain ⟨nm, ⟨p, c, l⟩⟩ := x
 unfold BrT
 obtain ⟨r, hr⟩ : ∃ r, r = brP (alook am) part nm l := ⟨_, rfl⟩
 rw [← hr]
 obtain ⟨W1, hW1⟩ : ∃ W1, W1 = (W.alloc (.cells #[.string nm, .slice p l.length c] 25)).alloc (.cells #[.int .i64 0, .int .i64 0, .int .i64 0, .int .i64 0, .int .i64 0, .int .i64 0, .int .i64 0] 74) := ⟨_, rfl⟩
 have hb1 : Below W.heap.size W W1 := by rw [hW1]; exact ((Below.refl _ _).alloc (Nat.le_refl _) _).alloc (by simp) _
 have hz1 : W1.heap.size = W.heap.size + 2 := by rw [hW1]; simp
 obtain ⟨r1, r2, r3, hg⟩ : ∃ r1 r2 r3, growsP nm l = (r1, r2, r3) := ⟨_, _, _, rfl⟩
 have HGP : Hid (growsP nm l = (r1, r2, r3)) := hg
 have HG : Hid (Calls Try.prog 11 #[.agg #[.string nm, .slice p l.length c]] W1 fun e w' => e = .returned (.tuple #[.int .i64 r1, .int .i64 r2, .bool r3]) ∧ Below W1.heap.size W1 w') := by
  have := grows_any ⟨nm, ⟨p, c, l⟩⟩ (h.below hb1)
  unfold GrowsT at this
  dsimp only at this
  rw [hg] at this
  exact this
 have HW1 := hid hW1
 have HB1 := hid hb1
 have HZ1 := hid hz1
 have HM := hid hm
 have HR := hid hr
 have HOK := hid h
 have hx1 : W1.heap[W.heap.size]? = some (.cells #[.string nm, .slice p l.length c] 25 (0, 0)) := by rw [hW1]; exact (Below.heap_alloc _ _ _ (by simp)).trans (heap_alloc_new _ _)
 have hx2 : W1.heap[W.heap.size + 1]? = some (.cells #[.int .i64 0, .int .i64 0, .int .i64 0, .int .i64 0, .int .i64 0, .int .i64 0, .int .i64 0] 74 (0, 0)) := by rw [hW1]; exact heap_newAt _ _ _ (by simp)
 have HX1 := hid hx1
 have HX2 := hid hx2
 unfold LnR.cells Sl.val
 dsimp only
 clear h hm hr hW1 hb1 hx1 hx2 hg
 by_cases h3 : r3 = true
 ·subst h3
  have hl := growsP_last (n := nm) (l := l) (by rw [HGP.out])
  obtain ⟨ini, o, rfl⟩ : ∃ ini o, l = ini ++ [o] := ⟨l.dropLast, l.getLast hl, (List.dropLast_concat_getLast hl).symm⟩
  obtain ⟨b, q, rfl, hbl, -⟩ := HOK.out.row.at (by have := flat_len Oc.cells 15 (fun _ => rfl) (ini ++ [o]); rw [List.length_append] at this; simp at this ⊢; omega)
  have hll : (ini ++ [o]).length = ini.length + 1 := by simp
  have hcl := oc_cells HOK.out.row ini.length (by rw [hll]; omega)
  have hge : (ini ++ [o])[ini.length]'(by rw [hll]; omega) = o := by simp
  rw [hge] at hcl
  obtain ⟨-, -, -, -, -, -, -, -, -, -, c10, c11, c12, -, -⟩ := hcl
  have hcap := HOK.out.cap
  have hlen := HOK.out.len
  dsimp only at hcap hlen
  have HRR : Hid (r = match alook am o.v.plus with
   | none => none
   | some k => if k.equ || (k.part != part) then none else some ⟨3, 0, 0, k.piece, o.v.add, r1, r2⟩) := by
   unfold Hid; rw [HR.out]; unfold brP; rw [HGP.out]; simp
  clear hl hge HGP HR HOK
  rw [hll] at hlen hcap HX1 HG HW1 ⊢
  clear hll
  generalize ini.length = k at *
  have hw1 : IntKind.i64.wrap (((k + 1 : Nat) : Int) - 1) = (k : Nat) := by rw [IntWalk.i64_in _ (by omega)]; omega
  go_enter Try.func31, Try.ntmps31
  go_upto_region 1 with (fail)
  rw [← HW1.out]
  have k1 := cell_of_row _ _ 0 _ _ _ HX1.out
  have k2 := cell_of_row _ _ 1 _ _ _ HX1.out
  simp only [List.getElem?_toArray, List.getElem?_cons_zero, List.getElem?_cons_succ] at k1 k2
  have HC := hid (And.intro c10 (And.intro c11 c12))
  clear c10 c11 c12
  have HJ : Hid (∀ W2 : World, Below W1.heap.size W1 W2 → W1.heap.size ≤ W2.heap.size ∧ Below W.heap.size W W2 ∧ W2.cell? ⟨W.heap.size, 0, none⟩ = some (.string nm) ∧ W2.cell? ⟨W.heap.size, 1, none⟩ = some (.slice (some ⟨b, q, none⟩) (k + 1) c) ∧ W2.heap[W.heap.size + 1]? = some (.cells #[.int .i64 0, .int .i64 0, .int .i64 0, .int .i64 0, .int .i64 0, .int .i64 0, .int .i64 0] 74 (0, 0)) ∧ W2.cell? ⟨b, q + k * 15 + 10, none⟩ = some (.int .i64 o.v.add) ∧ W2.cell? ⟨b, q + k * 15 + 11, none⟩ = some (.string o.v.plus) ∧ W2.cell? ⟨b, q + k * 15 + 12, none⟩ = some (.string o.v.minus) ∧ b < W2.heap.size ∧ mb < W2.heap.size ∧ W.heap.size + 1 < W2.heap.size ∧ MapIs Value.string Mk.val W2 mb am) := fun W2 hb2 => by
   have hz2 := hb2.size
   have hlt : W.heap.size < W1.heap.size := by omega
   have hB := HB1.out.trans (hb2.mono (show W.heap.size ≤ W1.heap.size by omega))
   exact ⟨hz2, hB, (hb2.cell (p := ⟨W.heap.size, 0, none⟩) hlt).trans k1, (hb2.cell (p := ⟨W.heap.size, 1, none⟩) hlt).trans k2, (hb2.block (W.heap.size + 1) (by omega)).trans HX2.out,
    (hB.cell (p := ⟨b, q + k * 15 + 10, none⟩) hbl).trans HC.out.1, (hB.cell (p := ⟨b, q + k * 15 + 11, none⟩) hbl).trans HC.out.2.1, (hB.cell (p := ⟨b, q + k * 15 + 12, none⟩) hbl).trans HC.out.2.2, by omega, by omega, by omega, HM.out.below hB hmb⟩
  cases hlk : alook am o.v.plus with
  | none =>
   have HLK := hid hlk
   clear hlk
   go_wp2_with (first
    | (go_at_call 11; go_loud ((with_reducible refine HG.out.mono ?_); rintro e W2 ⟨rfl, hb2⟩; obtain ⟨hz2, hB2, j1, j2, jb, c10, c11, c12, hbl2, hmb2, hz3, hm2⟩ := HJ.out W2 hb2; obtain ⟨i0, i1, i2, i3, i4, i5, i6⟩ := itm_cells (x := Itm.zero) jb; obtain ⟨f0, f1, f2, f3, f4, f5, f6⟩ := itm_frozen (x := Itm.zero) jb; simp only [Itm.zero] at i0 i1 i2 i3 i4 i5 i6; have hz4 : W.heap.size < W2.heap.size := (by omega); have HM2 := hid hm2; have HB2 := hid hB2; have JB := hid jb; clear hb2 hm2 hB2 jb))
    | ((with_reducible show wpList _ _ _ (⟨some 35, _, _, _, _, _⟩ :: _) _ _); go_loud (refine wpList_maplook KStr Try.underlying95 rfl _ _ true rfl _ (zeroMk _) _ am rfl (HM2.out.below (alloc_below _ _) (by omega)) o.v.plus rfl ?_); simp only [HLK.out, if_true, Option.map_none, Option.getD_none, Option.isSome_none]))
   refine bodyPost_ret (v := .tuple #[.agg #[.int .i64 0, .int .i64 0, .int .i64 0, .int .i64 0, .int .i64 0, .int .i64 0, .int .i64 0], .bool false]) (by simp [results, Try.results31, go_sem, i0, i1, i2, i3, i4, i5, i6, hz3, hz4]) rfl ?_
   refine ⟨?_, by with_reducible exact below_itm HB2.out (Nat.le_succ _) (Nat.le_of_lt hz4) _ _ _ _ _ _ _ _ _⟩
   rw [HRR.out, HLK.out]
   rfl
  | some kk =>
   have HLK := hid hlk
   clear hlk
   obtain ⟨knm, kf, kl, kp, kpc, ke, kv1, kv2, kv3⟩ := kk
   cases ke with
   | true =>
    go_wp2_with (first
     | (go_at_call 11; go_loud ((with_reducible refine HG.out.mono ?_); rintro e W2 ⟨rfl, hb2⟩; obtain ⟨hz2, hB2, j1, j2, jb, c10, c11, c12, hbl2, hmb2, hz3, hm2⟩ := HJ.out W2 hb2; obtain ⟨i0, i1, i2, i3, i4, i5, i6⟩ := itm_cells (x := Itm.zero) jb; obtain ⟨f0, f1, f2, f3, f4, f5, f6⟩ := itm_frozen (x := Itm.zero) jb; simp only [Itm.zero] at i0 i1 i2 i3 i4 i5 i6; have hz4 : W.heap.size < W2.heap.size := (by omega); have HM2 := hid hm2; have HB2 := hid hB2; have JB := hid jb; clear hb2 hm2 hB2 jb))
     | ((with_reducible show wpList _ _ _ (⟨some 35, _, _, _, _, _⟩ :: _) _ _); go_loud (refine wpList_maplook KStr Try.underlying95 rfl _ _ true rfl _ (zeroMk _) _ am rfl (HM2.out.below (alloc_below _ _) (by omega)) o.v.plus rfl ?_); simp only [HLK.out, if_true, Option.map_some, Option.getD_some, Option.isSome_some, Mk.val, Mk.cells]))
    refine bodyPost_ret (v := .tuple #[.agg #[.int .i64 0, .int .i64 0, .int .i64 0, .int .i64 0, .int .i64 0, .int .i64 0, .int .i64 0], .bool false]) (by simp [results, Try.results31, go_sem, i0, i1, i2, i3, i4, i5, i6, hz3, hz4]) rfl ?_
    refine ⟨?_, by with_reducible exact below_itm HB2.out (Nat.le_succ _) (Nat.le_of_lt hz4) _ _ _ _ _ _ _ _ _⟩
    rw [HRR.out, HLK.out]
    rfl
   | false =>
    by_cases hkp : kp = part
    ·subst hkp
     have hne : (kp != kp) = false := by simp
     have HNE := hid hne
     go_wp2_with (first
      | (go_at_call 11; go_loud ((with_reducible refine HG.out.mono ?_); rintro e W2 ⟨rfl, hb2⟩; obtain ⟨hz2, hB2, j1, j2, jb, c10, c11, c12, hbl2, hmb2, hz3, hm2⟩ := HJ.out W2 hb2; obtain ⟨i0, i1, i2, i3, i4, i5, i6⟩ := itm_cells (x := Itm.zero) jb; obtain ⟨f0, f1, f2, f3, f4, f5, f6⟩ := itm_frozen (x := Itm.zero) jb; simp only [Itm.zero] at i0 i1 i2 i3 i4 i5 i6; have hz4 : W.heap.size < W2.heap.size := (by omega); have HM2 := hid hm2; have HB2 := hid hB2; have JB := hid jb; clear hb2 hm2 hB2 jb))
      | ((with_reducible show wpList _ _ _ (⟨some 35, _, _, _, _, _⟩ :: _) _ _); go_loud (refine wpList_maplook KStr Try.underlying95 rfl _ _ true rfl _ (zeroMk _) _ am rfl (HM2.out.below (alloc_below _ _) (by omega)) o.v.plus rfl ?_); simp only [HLK.out, if_true, Option.map_some, Option.getD_some, Option.isSome_some, Mk.val, Mk.cells]))
     refine bodyPost_ret (v := .tuple #[.agg #[.int .i64 3, .int .i64 0, .int .i64 0, .int .i64 kpc, .int .i64 o.v.add, .int .i64 r1, .int .i64 r2], .bool true]) (by simp [results, Try.results31, go_sem, i0, i1, i2, i3, i4, i5, i6, hz3, hz4]) rfl ?_
     refine ⟨?_, by with_reducible exact below_itm HB2.out (Nat.le_succ _) (Nat.le_of_lt hz4) _ _ _ _ _ _ _ _ _⟩
     rw [HRR.out, HLK.out]
     simp [Itm.cells]
    ·have hne : (kp != part) = true := by simp [hkp]
     have HNE := hid hne
     go_wp2_with (first
      | (go_at_call 11; go_loud ((with_reducible refine HG.out.mono ?_); rintro e W2 ⟨rfl, hb2⟩; obtain ⟨hz2, hB2, j1, j2, jb, c10, c11, c12, hbl2, hmb2, hz3, hm2⟩ := HJ.out W2 hb2; obtain ⟨i0, i1, i2, i3, i4, i5, i6⟩ := itm_cells (x := Itm.zero) jb; obtain ⟨f0, f1, f2, f3, f4, f5, f6⟩ := itm_frozen (x := Itm.zero) jb; simp only [Itm.zero] at i0 i1 i2 i3 i4 i5 i6; have hz4 : W.heap.size < W2.heap.size := (by omega); have HM2 := hid hm2; have HB2 := hid hB2; have JB := hid jb; clear hb2 hm2 hB2 jb))
      | ((with_reducible show wpList _ _ _ (⟨some 35, _, _, _, _, _⟩ :: _) _ _); go_loud (refine wpList_maplook KStr Try.underlying95 rfl _ _ true rfl _ (zeroMk _) _ am rfl (HM2.out.below (alloc_below _ _) (by omega)) o.v.plus rfl ?_); simp only [HLK.out, if_true, Option.map_some, Option.getD_some, Option.isSome_some, Mk.val, Mk.cells]))
     refine bodyPost_ret (v := .tuple #[.agg #[.int .i64 0, .int .i64 0, .int .i64 0, .int .i64 0, .int .i64 0, .int .i64 0, .int .i64 0], .bool false]) (by simp [results, Try.results31, go_sem, i0, i1, i2, i3, i4, i5, i6, hz3, hz4]) rfl ?_
     refine ⟨?_, by with_reducible exact below_itm HB2.out (Nat.le_succ _) (Nat.le_of_lt hz4) _ _ _ _ _ _ _ _ _⟩
     rw [HRR.out, HLK.out]
     simp [HNE.out, Itm.zero, Itm.cells]
 ·have h3 : r3 = false := by simpa using h3
  subst h3
  have HRR : Hid (r = none) := by unfold Hid; rw [HR.out]; unfold brP; rw [HGP.out]; rfl
  clear HGP HR HOK
  go_enter Try.func31, Try.ntmps31
  go_upto_region 1 with (fail)
  rw [← HW1.out]
  have k1 := cell_of_row _ _ 0 _ _ _ HX1.out
  have k2 := cell_of_row _ _ 1 _ _ _ HX1.out
  simp only [List.getElem?_toArray, List.getElem?_cons_zero, List.getElem?_cons_succ] at k1 k2
  have HJ : Hid (∀ W2 : World, Below W1.heap.size W1 W2 → Below W.heap.size W W2 ∧ W2.heap[W.heap.size + 1]? = some (.cells #[.int .i64 0, .int .i64 0, .int .i64 0, .int .i64 0, .int .i64 0, .int .i64 0, .int .i64 0] 74 (0, 0))) := fun W2 hb2 =>
   ⟨HB1.out.trans (hb2.mono (show W.heap.size ≤ W1.heap.size by omega)), (hb2.block (W.heap.size + 1) (by omega)).trans HX2.out⟩
  go_wp2_with (go_at_call 11; (with_reducible refine HG.out.mono ?_); rintro e W2 ⟨rfl, hb2⟩; obtain ⟨hB2, jb⟩ := HJ.out W2 hb2; obtain ⟨i0, i1, i2, i3, i4, i5, i6⟩ := itm_cells (x := Itm.zero) jb; obtain ⟨f0, f1, f2, f3, f4, f5, f6⟩ := itm_frozen (x := Itm.zero) jb; simp only [Itm.zero] at i0 i1 i2 i3 i4 i5 i6; have HB2 := hid hB2; clear hb2 hB2 jb)
  refine bodyPost_ret (v := .tuple #[.agg #[.int .i64 0, .int .i64 0, .int .i64 0, .int .i64 0, .int .i64 0, .int .i64 0, .int .i64 0], .bool false]) (by simp [results, Try.results31, go_sem, i0, i1, i2, i3, i4, i5, i6]) rfl ?_
  refine ⟨?_, ?_⟩
  ·rw [HRR.out]; rfl
  ·trace_state
   exact Below.setCell (p := ⟨W.heap.size + 1, 6, none⟩) (Below.setCell (p := ⟨W.heap.size + 1, 5, none⟩) (Below.setCell (p := ⟨W.heap.size + 1, 4, none⟩) (Below.setCell (p := ⟨W.heap.size + 1, 3, none⟩) (Below.setCell (p := ⟨W.heap.size + 1, 2, none⟩) (Below.setCell (p := ⟨W.heap.size + 1, 1, none⟩) (Below.setCell (p := ⟨W.heap.size + 1, 0, none⟩) HB2.out (Nat.le_succ _) _) (Nat.le_succ _) _) (Nat.le_succ _) _) (Nat.le_succ _) _) (Nat.le_succ _) _) (Nat.le_succ _) _) (Nat.le_succ _) _
end Go.Proofs.Ythlingholhjcnaa
namespace Go.Proofs.Ythlingholhjcnaa
open Go.RowKit
variable {P : Program} {w : World} {t e : TypeId} {size bytes : Nat} {z : Value} {ops : Array Oper} {rest : List Oper} {o : Oper} {a : Act} {Q : Exit → Act → World → Prop}
end Go.Proofs.Ythlingholhjcnaa
namespace Go.Proofs.Ythlingholhjcnaa
open Go.RowKit
attribute [local go_sem] Oper.semAt_some
theorem wide_fn (f : FuncId) : Fence.wide.fn f = True := rfl
theorem wide_depth : Fence.wide.depth = none := rfl
attribute [local go_sem] wide_fn wide_depth
variable {W W' w w' : World}
def revE (l : List Mk) : Nat → List (Nat × Mk)
 | 0 => []
 | k + 1 => (match l[k]? with | some x => [(k, x)] | none => []) ++ revE l k
theorem revE_succ (l : List Mk) (k : Nat) (h : k < l.length) : revE l (k + 1) = (k, l[k]) :: revE l k := by
 show (match l[k]? with | some x => [(k, x)] | none => []) ++ revE l k = _
 rw [List.getElem?_eq_getElem h]; rfl
theorem revE_len (l : List Mk) : ∀ k, k ≤ l.length → (revE l k).length = k
 | 0, _ => rfl
 | k + 1, h => by rw [revE_succ l k (by omega), List.length_cons, revE_len l k (by omega)]
def encM (x : Nat × Mk) : Array Value := #[.int .i64 x.1, x.2.val]
theorem Row.own_keeps {W W' : World} {p : Option Addr} {cs : List Value} {n₀ : Nat} (h : Row W p cs) (hb : Below n₀ W W') (hp : cs ≠ [] → ∀ a, p = some a → a.block < n₀) : Row W' p cs := by
 intro hcs
 obtain ⟨b, f, rfl, hc⟩ := h hcs
 exact ⟨b, f, rfl, fun i hi => (hb.cell (p := ⟨b, f + i, none⟩) (hp hcs ⟨b, f, none⟩ rfl)).trans (hc i hi)⟩
set_option maxRecDepth 20000 in
set_option maxHeartbeats 4000000 in
theorem back_seq (n : Nat) (hn : 1 ≤ n) (l : List Mk) (hm : l.length ≤ 1000000000000) (n₀ : Nat) (S : TypeId → Bool) (hS : S 29 = true) (b : Nat) (q : Option Addr) (c : Nat) (w : World) (hbw : w.heap[b]? = some (.cells #[.slice q l.length c] 29 (0, 0))) (hn0 : n₀ ≤ w.heap.size) (hrow : Row w q (l.flatMap Mk.cells)) (hq : l.flatMap Mk.cells ≠ [] → ∀ a, q = some a → a.block < n₀) :
  SeqStopsK Fence.wide n Try.prog 49 #[.pointer (some ⟨b, 0, none⟩)] encM (KpT n₀ S) (fun ys => ys = revE l l.length) (fun pre => ∃ suf, pre ++ suf = revE l l.length) l.length w := by
 intro ll J Jx W hW hJ hJx hY h0
 have hblt : b < w.heap.size := (Array.getElem?_eq_some_iff.1 hbw).1
 have hbW := (hW.block b hblt).trans hbw
 have hr0 : Row W q (l.flatMap Mk.cells) := hrow.below hW
 show CallsIn Fence.wide n Try.prog 49 #[.func (.yield ll) #[] #[], .pointer (some ⟨b, 0, none⟩)] W _
 have hcb0 := cell_of_row W b 0 _ _ _ hbW
 simp at hcb0
 obtain ⟨N, hN⟩ : ∃ N, N = l.length := ⟨_, rfl⟩
 have HN := hid hN
 rw [← hN] at hm hcb0 ⊢
 have hw1 : IntKind.i64.wrap ((N : Int) - 1) = (N : Int) - 1 := IntWalk.i64_in _ (by omega)
 have HBW := hid hbW
 have HY := hid hY
 have HR0 := hid hr0
 clear hN hbW hY hr0 hrow
 refine callsIn_of_wp Try.func49 rfl (show Fence.wide.fn 49 from trivial) ?_ rfl
 simp only [Try.ntmps49, List.size_toArray, List.length_cons, List.length_nil, Nat.reduceAdd, Nat.reduceSub, Array.replicate_succ, Array.replicate_zero, List.push_toArray, List.append_toArray, List.nil_append, List.cons_append]
 gi_wp2
 gi_loopw [3] (fun i wr => ∃ (k : Nat) (pre : List (Nat × Mk)), k ≤ N ∧ i = .int .i64 ((k : Int) - 1) ∧ J pre wr ∧ pre ++ revE l k = revE l N ∧ Below n₀ W wr ∧ wr.heap[b]? = some (.cells #[.slice q N c] 29 (0, 0))) (fun i _ => (intOf i + 1).toNat)
 case atStart => exact ⟨N, [], Nat.le_refl _, rfl, h0, rfl, Below.refl _ _, by rw [HN.out]; exact HBW.out⟩
 case round =>
  obtain ⟨k, pre, hk, rfl, hJs, hP, hnx, hbx⟩ := hrel
  have HP := hid hP
  have HBX := hid hbx
  have hcb := cell_of_row _ b 0 _ _ _ hbx
  simp at hcb
  clear hP hbx hcb0
  cases k with
  | zero =>
   have HA : Hid (pre = revE l N) := by have := HP.out; rw [revE, List.append_nil] at this; exact this
   gi_wp2
   go_end0
   exact ⟨⟨_, rfl⟩, .inl ⟨_, HA.out, hJs⟩⟩
  | succ k =>
   have hkl : k < l.length := by rw [← HN.out]; omega
   have hrk := HR0.out.own_keeps hnx hq
   obtain ⟨rb, ro, rfl, -, -⟩ := hrk.at (by have := flat_len Mk.cells 9 (fun _ => rfl) l; omega)
   obtain ⟨c0, c1, c2, c3, c4, c5, c6, c7, c8⟩ := mk_cells hrk k hkl
   have HS : Hid ((pre ++ [(k, l[k])]) ++ revE l k = revE l N) := by
    have := HP.out
    rw [revE_succ l k hkl] at this
    rw [List.append_assoc]; exact this
   have hlen : pre.length < N := by
    have := congrArg List.length HP.out
    rw [List.length_append, revE_len l _ (by omega), revE_len l _ (by rw [← HN.out]; exact Nat.le_refl _)] at this
    omega
   obtain ⟨fn, tmps, assign, body, hy, hR⟩ := HY.out pre (k, l[k]) _ hJs (by rw [← HN.out]; exact hlen)
   simp only [encM, Mk.val, Mk.cells] at hy
   generalize l[k] = x at *
   have hsub : (((k + 1 : Nat) : Int) - 1) = (k : Int) := by omega
   rw [hsub]
   have hkN : k < N := by omega
   have hkI : (k : Int) < N := by omega
   have hwk : IntKind.i64.wrap ((k : Int) - 1) = (k : Int) - 1 := IntWalk.i64_in _ (by omega)
   clear hrk HP hk hsub
   gi_wp2
   refine hR.mono ?_
   rintro e W3 (⟨rfl, hJ3, hk3⟩ | ⟨rfl, hJx3⟩)
   ·have hb3 := hk3.2.2 _ _ _ _ hS HBX.out
    gi_wp2
    go_roundw
    case rel =>
     exact ⟨k, pre ++ [(k, x)], by omega, rfl, hJ3, HS.out, hnx.trans hk3.1, hb3⟩
    case measure => simp [intOf]; try omega
   ·gi_wp2
    refine bodyPost_ret (results_none rfl _ _ _) rfl ?_
    exact ⟨⟨_, rfl⟩, .inr ⟨_, ⟨revE l k, HS.out⟩, hJx3⟩⟩
end Go.Proofs.Ythlingholhjcnaa
namespace Go.Proofs.Ythlingholhjcnaa
open Go.RowKit
attribute [local go_sem] Oper.semAt_some
attribute [local go_sem] wide_fn wide_depth
variable {W W' w w' : World}
theorem back_any (q : Option Addr) (m c : Nat) (w : World) :
  Calls Try.prog 30 #[.slice q m c] w fun e w' => e = .returned (.func (.func 49) #[] #[.pointer (some ⟨w.heap.size, 0, none⟩)]) ∧ w' = w.alloc (.cells #[.slice q m c] 29) := by
 go_enter Try.func30, Try.ntmps30
 go_wp2
 go_ret
 exact ⟨rfl, rfl⟩
def firstM (l : List Mk) (x : ByteArray) : Option Mk := l.find? (fun k => decide (x = k.name))
def setM (m : List (ByteArray × Mk)) (x : Nat × Mk) : List (ByteArray × Mk) := aset m x.2.name x.2
theorem alook_aset {κ β : Type} [DecidableEq κ] (m : List (κ × β)) (x : κ) (u : β) (y : κ) : alook (aset m x u) y = if y = x then some u else alook m y := by
 induction m with
 | nil => simp [aset, alook]
 | cons a l ih =>
  obtain ⟨k, v⟩ := a
  by_cases h : x = k
  ·subst h
   by_cases hy : y = x <;> simp [aset, alook, hy]
  ·by_cases hy : y = k
   ·subst hy
    have : ¬ y = x := fun e => h e.symm
    simp [aset, alook, h, this]
   ·simp [aset, alook, h, hy, ih]
theorem alook_rev (l : List Mk) (x : ByteArray) : ∀ (k : Nat) (m : List (ByteArray × Mk)), k ≤ l.length → alook ((revE l k).foldl setM m) x = (firstM (l.take k) x).or (alook m x)
 | 0, m, _ => by simp [revE, firstM]
 | k + 1, m, h => by
  rw [revE_succ l k (by omega), List.foldl_cons, alook_rev l x k _ (by omega)]
  unfold setM
  rw [alook_aset]
  have e : l.take (k + 1) = l.take k ++ [l[k]] := by rw [List.take_add_one, List.getElem?_eq_getElem (by omega)]; rfl
  rw [e]
  unfold firstM
  rw [List.find?_append]
  cases h1 : (l.take k).find? (fun k => decide (x = k.name)) with
  | some y => simp
  | none =>
   by_cases hx : x = l[k].name
   ·simp [hx]
   ·simp [hx]
def itemP (lk : ByteArray → Option Mk) (part : Int) (x : PcR) : Itm :=
 if x.kind = 2 then (brP lk part x.l.name x.l.opers.l).getD ⟨1, 4, 0, 0, 0, 0, 0⟩
 else if x.kind = 1 then ⟨1, 4, 0, 0, 0, 0, 0⟩
 else if x.kind = 3 then ⟨1, x.size, 0, 0, 0, 0, 0⟩
 else if x.kind = 4 then ⟨1, x.b.l.length, 0, 0, 0, 0, 0⟩
 else if x.kind = 5 then ⟨2, 0, x.align, 0, 0, 0, 0⟩ else ⟨1, 0, 0, 0, 0, 0, 0⟩
theorem EItem : Elem Try.prog 51 74 7 56 (.agg #[.int .i64 0, .int .i64 0, .int .i64 0, .int .i64 0, .int .i64 0, .int .i64 0, .int .i64 0]) := Elem.mk' Try.underlying51 (by kernel_rfl) rfl (by decide)
theorem itm_ones (x : Itm) : ∀ u ∈ x.cells, u.oneCell' = true := fun u hu => by
 simp [Itm.cells] at hu
 rcases hu with rfl | rfl | rfl | rfl | rfl | rfl | rfl <;> rfl
def ItemsT (X : FV) (part : Nat) (y : PtR) (w : World) (e : Ending) (w' : World) : Prop :=
 ∃ p c, e = .returned (.slice p y.pieces.l.length c) ∧ Row w' p ((y.pieces.l.map (itemP (firstM X.ms) part)).flatMap Itm.cells) ∧ Below w.heap.size w w'
structure ItI (W : World) (X : FV) (m : List (ByteArray × Mk)) (W' : World) : Prop where
 unit : W'.heap[W.heap.size]? = some (.cells #[X.pv, X.mv, X.gv] 32 (0, 0))
 map : MapIs Value.string Mk.val W' (W.heap.size + 1) m
 box : W'.heap[W.heap.size + 1 + 1]? = some (.cells #[.map (some (W.heap.size + 1))] 95 (0, 0))
 below : Below W.heap.size W W'
 size : W.heap.size + 4 ≤ W'.heap.size
theorem at_act {g : Operand} {ps : Array Tmp} {assign body : Code} {F : Fence} {n : Nat} {P : Program} {Q : Exit → Act → World → Prop} {a : Act} {w : World} (h : ∀ a0, a0 = a → (Code.rangeFunc g ps assign body).wpIn F n P Q a0 w) : (Code.rangeFunc g ps assign body).wpIn F n P Q a w := h a rfl
theorem heap_keptP {W W' : World} {row : Option Nat} {k : Nat} {o : Obj} (hg : W.grownBy W' row) (hr : some k ≠ row) (h : W.heap[k]? = some o) : W'.heap[k]? = some o :=
 (hg.block k (Array.getElem?_eq_some_iff.1 h).1 hr).trans h
theorem put7 {g T : Nat} {a0 a1 a2 a3 a4 a5 a6 : Value} (h : W.heap[g]? = some (.cells #[a0, a1, a2, a3, a4, a5, a6] T (0, 0))) (v0 v1 v2 v3 v4 v5 v6 : Value) :
  (((((((W.setCell ⟨g, 0, none⟩ v0).setCell ⟨g, 1, none⟩ v1).setCell ⟨g, 2, none⟩ v2).setCell ⟨g, 3, none⟩ v3).setCell ⟨g, 4, none⟩ v4).setCell ⟨g, 5, none⟩ v5).setCell ⟨g, 6, none⟩ v6).heap[g]? = some (.cells #[v0, v1, v2, v3, v4, v5, v6] T (0, 0)) := by
 have h0 : (W.setCell ⟨g, 0, none⟩ v0).heap[g]? = some (.cells #[v0, a1, a2, a3, a4, a5, a6] T (0, 0)) := heap_setCell_same _ _ 0 _ _ _ h
 generalize W.setCell ⟨g, 0, none⟩ v0 = W0 at *
 have h1 : (W0.setCell ⟨g, 1, none⟩ v1).heap[g]? = some (.cells #[v0, v1, a2, a3, a4, a5, a6] T (0, 0)) := heap_setCell_same _ _ 1 _ _ _ h0
 generalize W0.setCell ⟨g, 1, none⟩ v1 = W1 at *
 have h2 : (W1.setCell ⟨g, 2, none⟩ v2).heap[g]? = some (.cells #[v0, v1, v2, a3, a4, a5, a6] T (0, 0)) := heap_setCell_same _ _ 2 _ _ _ h1
 generalize W1.setCell ⟨g, 2, none⟩ v2 = W2 at *
 have h3 : (W2.setCell ⟨g, 3, none⟩ v3).heap[g]? = some (.cells #[v0, v1, v2, v3, a4, a5, a6] T (0, 0)) := heap_setCell_same _ _ 3 _ _ _ h2
 generalize W2.setCell ⟨g, 3, none⟩ v3 = W3 at *
 have h4 : (W3.setCell ⟨g, 4, none⟩ v4).heap[g]? = some (.cells #[v0, v1, v2, v3, v4, a5, a6] T (0, 0)) := heap_setCell_same _ _ 4 _ _ _ h3
 generalize W3.setCell ⟨g, 4, none⟩ v4 = W4 at *
 have h5 : (W4.setCell ⟨g, 5, none⟩ v5).heap[g]? = some (.cells #[v0, v1, v2, v3, v4, v5, a6] T (0, 0)) := heap_setCell_same _ _ 5 _ _ _ h4
 generalize W4.setCell ⟨g, 5, none⟩ v5 = W5 at *
 exact heap_setCell_same _ _ 6 _ _ _ h5
theorem below_put {B g : Nat} {W2 : World} (h : Below B W W2) (hB : B ≤ g) (v0 v1 v2 v3 v4 v5 v6 : Value) :
  Below B W (((((((W2.setCell ⟨g, 0, none⟩ v0).setCell ⟨g, 1, none⟩ v1).setCell ⟨g, 2, none⟩ v2).setCell ⟨g, 3, none⟩ v3).setCell ⟨g, 4, none⟩ v4).setCell ⟨g, 5, none⟩ v5).setCell ⟨g, 6, none⟩ v6) :=
 Below.setCell (p := ⟨g, 6, none⟩) (Below.setCell (p := ⟨g, 5, none⟩) (Below.setCell (p := ⟨g, 4, none⟩) (Below.setCell (p := ⟨g, 3, none⟩) (Below.setCell (p := ⟨g, 2, none⟩) (Below.setCell (p := ⟨g, 1, none⟩) (Below.setCell (p := ⟨g, 0, none⟩) h hB v0) hB v1) hB v2) hB v3) hB v4) hB v5) hB v6
theorem ItI.kept {X : FV} {m : List (ByteArray × Mk)} {A B : World} {C : Nat} (h : ItI W X m A) (hC : W.heap.size + 1 + 1 < C) {row : Option Nat} (hg : A.grownBy B row) (hr : ∀ r, row = some r → C ≤ r) : ItI W X m B := by
 have hz := (Array.getElem?_eq_some_iff.1 h.box).1
 exact ⟨(hg.block _ (by omega) (fun e => by have := hr _ e.symm; omega)).trans h.unit, h.map.kept hg (fun e => by have := hr _ e.symm; omega), (hg.block _ (by omega) (fun e => by have := hr _ e.symm; omega)).trans h.box, h.below.grown hg h.below.size (fun k e => by have := hr k e; omega), Nat.le_trans h.size hg.size⟩
set_option maxRecDepth 20000 in
set_option maxHeartbeats 4000000 in
theorem items_any {X : FV} (h : UnRd W X) (part : Nat) (y : PtR) (hy : X.ps[part]? = some y) (hn : y.pieces.l.length ≤ 4000000) :
  Calls Try.prog 17 #[.agg #[X.pv, X.mv, X.gv], .int .i64 (part : Nat)] W (ItemsT X part y W) := by
 have H := hid h
 have HY := hid hy
 obtain ⟨pp, pc, hpv, hpr⟩ := h.pv
 obtain ⟨mp, mc, hmv, hmr⟩ := h.mv
 obtain ⟨gp, gc, hgv, hgr⟩ := h.gv
 have hpl : part < X.ps.length := (List.getElem?_eq_some_iff.1 hy).1
 have hpI : (part : Int) < X.ps.length := by omega
 have hps := h.sm.ps
 have hms := h.sm.ms
 have HV := hid (And.intro hpv (And.intro hmv hgv))
 have HR := hid (And.intro hpr hmr)
 obtain ⟨NP, hNP⟩ : ∃ NP, NP = X.ps.length := ⟨_, rfl⟩
 obtain ⟨NM, hNM⟩ : ∃ NM, NM = X.ms.length := ⟨_, rfl⟩
 have HN := hid (And.intro hNP hNM)
 rw [hpv, hmv, hgv, ← hNP, ← hNM]
 rw [← hNP] at hpl hpI hps
 rw [← hNM] at hms
 generalize X.gs.length = NG at *
 clear h hy hpv hmv hgv hpr hmr hgr hNP hNM
 refine callsIn_wide.1 (?_ : CallsIn Fence.wide 8 Try.prog 17 #[.agg #[.slice pp NP pc, .slice mp NM mc, .slice gp NG gc], .int .i64 (part : Nat)] W _)
 refine callsIn_of_wp_marks Try.func17 rfl (show Fence.wide.fn 17 from trivial) ?_ rfl
 simp only [Try.ntmps17, List.size_toArray, List.length_cons, List.length_nil, Nat.reduceAdd, Nat.reduceSub, Array.replicate_succ, Array.replicate_zero, List.push_toArray, List.append_toArray, List.nil_append, List.cons_append]
 refine wpIn_wide.2 ?_
 have hmm := @run_makeMap Try.prog
 go_wp2_with (go_at_call 30; (with_reducible refine (back_any _ _ _ _).mono ?_); rintro e w2 ⟨rfl, rfl⟩)
 clear hmm
 obtain ⟨W4, hW4⟩ : ∃ W4, W4 = ((((W.alloc (.cells #[.slice pp NP pc, .slice mp NM mc, .slice gp NG gc] 32)).alloc (.map #[] 0)).alloc (.cells #[.map (some (W.heap.size + 1))] 95)).alloc (.cells #[.slice mp NM mc] 29)) := ⟨_, rfl⟩
 rw [← hW4]
 have hz4 : W4.heap.size = W.heap.size + 4 := by rw [hW4]; simp
 have hI4 : ItI W X [] W4 := by
  rw [hW4]
  refine ⟨?_, ?_, ?_, ?_, by simp⟩
  ·rw [HV.out.1, HV.out.2.1, HV.out.2.2, ← HN.out.1, ← HN.out.2]
   exact (Below.heap_alloc _ _ _ (by simp <;> omega)).trans ((Below.heap_alloc _ _ _ (by simp <;> omega)).trans ((Below.heap_alloc _ _ _ (by simp)).trans (heap_alloc_new _ _)))
  ·have := (((MapIs.made Value.string Mk.val (W.alloc (.cells #[.slice pp NP pc, .slice mp NM mc, .slice gp NG gc] 32))).alloc (.cells #[.map (some (W.heap.size + 1))] 95)).alloc (.cells #[.slice mp NM mc] 29))
   rw [World.size_alloc] at this
   exact this
  ·exact (Below.heap_alloc _ _ _ (by simp)).trans (heap_newAt _ _ _ (by simp))
  ·exact ((((Below.refl _ _).alloc (Nat.le_refl _) _).alloc (by simp) _).alloc (by simp <;> omega) _).alloc (by simp <;> omega) _
 have hb4 : W4.heap[W.heap.size + 1 + 1 + 1]? = some (.cells #[.slice mp NM mc] 29 (0, 0)) := by rw [hW4]; exact heap_newAt _ _ _ (by simp)
 have HI4 := hid hI4
 have hseq : Hid (SeqStopsK Fence.wide 7 Try.prog 49 #[.pointer (some ⟨W.heap.size + 1 + 1 + 1, 0, none⟩)] encM (KpT W.heap.size (fun T => T == 29)) (fun ys => ys = revE X.ms X.ms.length) (fun pre => ∃ suf, pre ++ suf = revE X.ms X.ms.length) X.ms.length W4) :=
  back_seq 7 (by omega) X.ms (by rw [← HN.out.2]; exact hms) W.heap.size _ (by decide) _ mp mc W4 (by rw [← HN.out.2]; exact hb4) (by omega) (HR.out.2.below hI4.below) (by
   intro hne a ha
   obtain ⟨b, o, he, hbl, -⟩ := HR.out.2.at (List.length_pos_iff.2 hne)
   rw [ha] at he; cases he; exact hbl)
 clear hW4 hI4 hb4
 refine (wpIn_wide (n := 8)).1 ?_
 refine at_act fun a0 ha0 => ?_
 refine wpIn_rangeFunc_ownH rfl (by omega) (gf := 49) (lb := #[.pointer (some ⟨W.heap.size + 1 + 1 + 1, 0, none⟩)]) (by rw [ha0]; rfl) trivial (enters_of Try.func49 (by kernel_rfl) rfl) hseq.out
  KpT.trans (fun W' l o o' hl h1 h2 h3 => KpT.putObj (by omega) W' l o o' hl h1 h2 h3) (Below.refl _ _) (fun _ => rfl)
  (fun pre W' => ItI W X (pre.foldl setM []) W') (fun c pre W' => False)
  (fun s A B row hs hg hr => hs.kept (C := W4.heap.size) (by omega) hg (fun r e => (hr r e).1))
  (fun c s A B row hs hg hr => hs)
  HI4.out
  (fun x a' W' => ∃ g, a' = { tmps := ((#[27, 28].zip (encM x)).foldl (fun t (p, v) => t.setIfInBounds p v) a0.tmps).setIfInBounds 7 (.pointer (some ⟨g, 0, none⟩)), defers := [] } ∧ W4.heap.size ≤ g ∧ W'.heap[g]? = some (.cells x.2.cells.toArray 81 (0, 0)))
  ?hAx ?assign ?body ?done ?stop
 case assign =>
  intro l pre x W' K hI hK
  subst ha0
  simp only [encM, Mk.val, Mk.cells]
  gi_wp2
  have hlt : W4.heap.size ≤ W'.heap.size := by rw [hz4]; exact hI.size
  refine hK _ _ ?_ ?_ ?_ ⟨W'.heap.size, by simp [encM, Mk.val, Mk.cells], by omega, ?_⟩
  ·exact (KeepsOthers.alloc _ _).from _
  ·exact KpT.alloc _ (by omega) _
  ·exact hI.kept (C := W4.heap.size) (by omega) (World.grownBy_alloc _ _ none) (by simp)
  ·exact heap_alloc_new _ _
 case hAx =>
  rintro x a' s A B row ⟨g, h1, h2, h3⟩ hg hr
  refine ⟨g, h1, h2, heap_keptP hg (fun e => ?_) h3⟩
  obtain ⟨-, o, ho, hc⟩ := hr _ e.symm
  rw [h3] at ho; cases ho; cases hc
 case body =>
  rintro l pre x a' W' hl hr hI ⟨g, rfl, hgz, hgb⟩ hlen
  subst ha0
  simp only [encM, Mk.val, Mk.cells]
  have c5 := cell_of_row _ _ 0 _ _ _ hI.box
  simp only [List.getElem?_toArray, List.getElem?_cons_zero, List.getElem?_cons_succ] at c5
  have d0 := cell_of_row _ _ 0 _ _ _ hgb
  have d1 := cell_of_row _ _ 1 _ _ _ hgb
  have d2 := cell_of_row _ _ 2 _ _ _ hgb
  have d3 := cell_of_row _ _ 3 _ _ _ hgb
  have d4 := cell_of_row _ _ 4 _ _ _ hgb
  have d5 := cell_of_row _ _ 5 _ _ _ hgb
  have d6 := cell_of_row _ _ 6 _ _ _ hgb
  have d7 := cell_of_row _ _ 7 _ _ _ hgb
  have d8 := cell_of_row _ _ 8 _ _ _ hgb
  simp only [Mk.cells, List.getElem?_toArray, List.getElem?_cons_zero, List.getElem?_cons_succ] at d0 d1 d2 d3 d4 d5 d6 d7 d8
  have HI := hid hI
  have hmi := hI.map
  clear hI hr
  gi_wp2_with ((with_reducible show wpListIn _ _ _ _ _ (⟨none, .mapUpdate _ _ _ _, _, _, _, _⟩ :: _) _ _); go_loud (refine wpListIn_mapset KStr Try.underlying95 rfl _ _ _ (.inl rfl) _ _ rfl hmi x.2.name rfl x.2 rfl ?_); intro w2 hm2 hg2)
  have h2 := HI.out
  have hz2 := h2.size
  obtain ⟨es, clock, hmb, -⟩ := id h2.map
  refine ⟨KeepsFrom.of_grownBy hg2 (fun j e => by cases e; omega), KpT.grown hg2 (by omega) (fun k e => ?_), heap_keptP hg2 (by simp) h2.unit, ?_, heap_keptP hg2 (by simp) h2.box, h2.below.grown hg2 h2.below.size (fun k e => by cases e; omega), Nat.le_trans hz2 hg2.size⟩
  ·cases e
   exact ⟨by omega, fun cs T fz _ h => by rw [hmb] at h; cases h⟩
  ·rw [List.foldl_append]; exact hm2
 case done =>
  rintro D xs W' hD rfl hI hDd
  subst ha0
  have hlk : ∀ x, alook ((revE X.ms X.ms.length).foldl setM []) x = firstM X.ms x := fun x => by
   rw [alook_rev _ _ _ _ (Nat.le_refl _), List.take_length]
   simp [alook]
  generalize (revE X.ms X.ms.length).foldl setM [] = am at *
  have HLK := hid hlk
  have HI := hid hI
  have u0 := cell_of_row _ _ 0 _ _ _ hI.unit
  simp only [List.getElem?_toArray, List.getElem?_cons_zero, List.getElem?_cons_succ] at u0
  rw [HV.out.1, ← HN.out.1] at u0
  have hpl2 : part < X.ps.length := by rw [← HN.out.1]; exact hpl
  have hpr := HR.out.1.below hI.below
  obtain ⟨pb, po, rfl, -, -⟩ := hpr.at (by have := flat_len PtR.cells 4 (fun _ => rfl) X.ps; omega)
  obtain ⟨-, -, -, p3⟩ := ptr_cells hpr part hpl2
  have hge : X.ps[part] = y := by have := HY.out; rw [List.getElem?_eq_getElem hpl2] at this; exact Option.some.inj this
  rw [hge] at p3
  have HPT := hid (H.out.pts y (List.mem_of_getElem? HY.out))
  have c5 := cell_of_row _ _ 0 _ _ _ hI.box
  simp only [List.getElem?_toArray, List.getElem?_cons_zero, List.getElem?_cons_succ] at c5
  unfold Sl.val at p3
  obtain ⟨N, hN⟩ : ∃ N, N = y.pieces.l.length := ⟨_, rfl⟩
  have HNN := hid hN
  rw [← hN] at p3 hn
  clear hI hlk hpr hge hN hseq HI4
  obtain ⟨V, hV⟩ : ∃ V, V = y.pieces.l.map (itemP (firstM X.ms) part) := ⟨_, rfl⟩
  have HVV := hid hV
  have HVL : Hid (V.length = N) := by unfold Hid; rw [hV, List.length_map, HNN.out]
  clear hV
  go_wp2_with fail
  go_loopw [8, 40] (fun v i wr => ∃ k : Nat, k ≤ N ∧ i = .int .i64 k ∧ wr.ownsRow W'.heap.size 74 7 v k ((V.take k).flatMap Itm.cells) ∧ Below W'.heap.size W' wr) (fun _ i _ => N - (intOf i).toNat)
  case atStart => exact ⟨0, Nat.zero_le _, rfl, World.ownsRow_nil _ _ _ _, Below.refl _ _⟩
  case round =>
   rename World => wr
   obtain ⟨k, hk, rfl, ho, hb⟩ := hrel
   have HO := hid ho
   have HB := hid hb
   obtain ⟨vp, vc, rfl, -⟩ := own_shape ho
   by_cases hlt : k < N
   ·have hkI : (k : Int) < N := by omega
    have hkl : k < y.pieces.l.length := by rw [← HNN.out]; exact hlt
    have hbW := HI.out.below.trans (hb.mono HI.out.below.size)
    have hpr := HPT.out.row.below hbW
    obtain ⟨qb, qo, hqe, -, -⟩ := hpr.at (by have := flat_len PcR.cells 11 (fun _ => rfl) y.pieces.l; omega)
    rw [hqe] at hpr ⊢
    obtain ⟨x0, x1, x2, x3, x4, x5, x6, x7, x8, x9, x10⟩ := pcr_cells hpr k hkl
    have HRD := hid ((HPT.out.pcs _ (List.getElem_mem hkl)).below hbW)
    have HIT : Hid (V[k]? = some (itemP (firstM X.ms) part y.pieces.l[k])) := by unfold Hid; rw [HVV.out, List.getElem?_map, List.getElem?_eq_getElem hkl]; rfl
    generalize y.pieces.l[k] = x at *
    unfold Sl.val at x4 x9
    clear ho hb hpr hqe hkl hbW
    go_upto_block 4 with (fail)
    obtain ⟨W6, hW6⟩ : ∃ W6, W6 = (wr.alloc (.cells #[.int .i64 x.kind, .int .i64 x.file, .int .i64 x.line, .string x.l.name, .slice x.l.opers.p x.l.opers.l.length x.l.opers.c, .int .i64 x.v.add, .string x.v.plus, .string x.v.minus, .int .i64 x.size, .slice x.b.p x.b.l.length x.b.c, .int .i64 x.align] 64)).alloc (.cells #[.int .i64 1, .int .i64 0, .int .i64 0, .int .i64 0, .int .i64 0, .int .i64 0, .int .i64 0] 74) := ⟨_, rfl⟩
    rw [← hW6]
    have hB6 : Below wr.heap.size wr W6 := by rw [hW6]; exact ((Below.refl _ _).alloc (Nat.le_refl _) _).alloc (by simp) _
    have hz6 : W6.heap.size = wr.heap.size + 2 := by rw [hW6]; simp
    have hbx : BxP wr.heap.size x W6 := by unfold BxP; rw [hW6]; exact (Below.heap_alloc _ _ _ (by simp)).trans (heap_alloc_new _ _)
    have hix : W6.heap[wr.heap.size + 1]? = some (.cells (Itm.mk 1 0 0 0 0 0 0).cells.toArray 74 (0, 0)) := by rw [hW6]; exact heap_newAt _ _ _ (by simp)
    have hwz : W'.heap.size ≤ wr.heap.size := HB.out.size
    have hsz : W.heap.size + 4 ≤ W'.heap.size := HI.out.size
    have hbW : Below W'.heap.size W' W6 := HB.out.trans (hB6.mono hwz)
    have c5 := (hbW.cell (p := ⟨W.heap.size + 1 + 1, 0, none⟩) (show W.heap.size + 1 + 1 < W'.heap.size by omega)).trans c5
    have hmp : MapIs Value.string Mk.val W6 (W.heap.size + 1) am := HI.out.map.below hbW (by omega)
    have HBR : Hid (Calls Try.prog 31 #[.map (some (W.heap.size + 1)), .int .i64 (part : Nat), .agg #[.string x.l.name, .slice x.l.opers.p x.l.opers.l.length x.l.opers.c]] W6 (BrT (firstM X.ms) part x.l.name x.l.opers.l W6)) := by
     have := branch_any x.l (HRD.out.op.below hB6) part _ am hmp (by omega)
     rw [show alook am = firstM X.ms from funext HLK.out] at this
     exact this
    obtain ⟨y0, -, -, y3, y4, -, -, -, y8, y9, y10⟩ := box_cells hbx
    obtain ⟨i0, i1, i2, i3, i4, i5, i6⟩ := itm_cells hix
    obtain ⟨f0, f1, f2, f3, f4, f5, f6⟩ := itm_frozen hix
    dsimp only at i0 i1 i2 i3 i4 i5 i6
    unfold Sl.val at y4 y9
    have HB6 := hid hB6
    have HIX := hid hix
    have HZ6 := hid hz6
    have HW6 := hid hW6
    obtain ⟨R, hR⟩ : ∃ R, R = itemP (firstM X.ms) part x := ⟨_, rfl⟩
    have HR2 := hid hR
    rw [← hR] at HIT
    clear hR hW6 hB6 hbx hix hz6 hbW hmp u0 p3 x0 x1 x2 x3 x4 x5 x6 x7 x8 x9 x10
    have hlt1 : wr.heap.size + 1 < W6.heap.size := by have := HZ6.out; omega
    have hlt0 : wr.heap.size < W6.heap.size := by have := HZ6.out; omega
    go_cut [12, 13] from 47 to 77 (fun _ _ wx => wx.heap[wr.heap.size + 1]? = some (.cells R.cells.toArray 74 (0, 0)) ∧ Below wr.heap.size wr wx)
    case first =>
     by_cases k2 : x.kind = 2
     ·have n2 : (x.kind == 2) = true := by simpa using k2
      cases hbr : brP (firstM X.ms) part x.l.name x.l.opers.l with
      | none =>
       have HRR : Hid (R = ⟨1, 4, 0, 0, 0, 0, 0⟩) := by unfold Hid; rw [HR2.out]; unfold itemP; simp [k2, hbr]
       have HBR : Hid (Calls Try.prog 31 #[.map (some (W.heap.size + 1)), .int .i64 (part : Nat), .agg #[.string x.l.name, .slice x.l.opers.p x.l.opers.l.length x.l.opers.c]] W6 fun e w' => e = .returned (.tuple #[.agg #[.int .i64 0, .int .i64 0, .int .i64 0, .int .i64 0, .int .i64 0, .int .i64 0, .int .i64 0], .bool false]) ∧ Below W6.heap.size W6 w') := by
        have := HBR.out
        unfold BrT at this
        rw [hbr] at this
        exact this
       clear hbr k2
       have HF7 : Hid (∀ w7 : World, Below W6.heap.size W6 w7 → Below wr.heap.size wr w7 ∧ w7.heap[wr.heap.size + 1]? = some (.cells (Itm.mk 1 0 0 0 0 0 0).cells.toArray 74 (0, 0)) ∧ wr.heap.size + 1 < w7.heap.size ∧ wr.heap.size < w7.heap.size) := fun w7 hb7 => by
        have := hb7.size
        exact ⟨HB6.out.trans (hb7.mono (by omega)), (hb7.block _ hlt1).trans HIX.out, by omega, by omega⟩
       go_wp2_with (go_at_call 31; go_loud ((with_reducible refine HBR.out.mono ?_); rintro e w7 ⟨rfl, hb7⟩; obtain ⟨hB7, hx7, z1, z0⟩ := HF7.out w7 hb7; obtain ⟨j0, j1, j2, j3, j4, j5, j6⟩ := itm_cells hx7; obtain ⟨g0, g1, g2, g3, g4, g5, g6⟩ := itm_frozen hx7; dsimp only at j0 j1 j2 j3 j4 j5 j6; have HB7 := hid hB7; have HX7 := hid hx7; clear hb7 hB7 hx7))
       go_meet
       rw [HRR.out]
       refine ⟨(Below.heap_alloc _ _ _ (by simpa using z1)).trans (heap_setCell_same _ _ 1 _ _ _ HX7.out), (HB7.out.setCell (p := ⟨wr.heap.size + 1, 1, none⟩) (Nat.le_succ _) _).alloc (by simp; omega) _⟩
      | some r =>
       obtain ⟨r0, r1, r2, r3, r4, r5, r6⟩ := r
       have HRR : Hid (R = ⟨r0, r1, r2, r3, r4, r5, r6⟩) := by unfold Hid; rw [HR2.out]; unfold itemP; simp [k2, hbr]
       have HBR : Hid (Calls Try.prog 31 #[.map (some (W.heap.size + 1)), .int .i64 (part : Nat), .agg #[.string x.l.name, .slice x.l.opers.p x.l.opers.l.length x.l.opers.c]] W6 fun e w' => e = .returned (.tuple #[.agg #[.int .i64 r0, .int .i64 r1, .int .i64 r2, .int .i64 r3, .int .i64 r4, .int .i64 r5, .int .i64 r6], .bool true]) ∧ Below W6.heap.size W6 w') := by
        have := HBR.out
        unfold BrT at this
        rw [hbr] at this
        exact this
       clear hbr k2
       have HF7 : Hid (∀ w7 : World, Below W6.heap.size W6 w7 → Below wr.heap.size wr w7 ∧ w7.heap[wr.heap.size + 1]? = some (.cells (Itm.mk 1 0 0 0 0 0 0).cells.toArray 74 (0, 0)) ∧ wr.heap.size + 1 < w7.heap.size ∧ wr.heap.size < w7.heap.size) := fun w7 hb7 => by
        have := hb7.size
        exact ⟨HB6.out.trans (hb7.mono (by omega)), (hb7.block _ hlt1).trans HIX.out, by omega, by omega⟩
       go_wp2_with (go_at_call 31; go_loud ((with_reducible refine HBR.out.mono ?_); rintro e w7 ⟨rfl, hb7⟩; obtain ⟨hB7, hx7, z1, z0⟩ := HF7.out w7 hb7; obtain ⟨j0, j1, j2, j3, j4, j5, j6⟩ := itm_cells hx7; obtain ⟨g0, g1, g2, g3, g4, g5, g6⟩ := itm_frozen hx7; dsimp only at j0 j1 j2 j3 j4 j5 j6; have HB7 := hid hB7; have HX7 := hid hx7; clear hb7 hB7 hx7))
       go_meet
       rw [HRR.out]
       refine ⟨(Below.heap_alloc _ _ _ (by simpa using z1)).trans (put7 HX7.out _ _ _ _ _ _ _), (below_put HB7.out (Nat.le_succ _) _ _ _ _ _ _ _).alloc (by simp; omega) _⟩
     ·have n2 : (x.kind == 2) = false := by simpa using k2
      by_cases k1 : x.kind = 1
      ·have n1 : (x.kind == 1) = true := by simpa using k1
       have HRR : Hid (R = ⟨1, 4, 0, 0, 0, 0, 0⟩) := by unfold Hid; rw [HR2.out]; unfold itemP; simp [k1]
       go_wp2_with fail
       go_meet
       rw [HRR.out]
       exact ⟨heap_setCell_same _ _ 1 _ _ _ HIX.out, HB6.out.setCell (p := ⟨wr.heap.size + 1, 1, none⟩) (Nat.le_succ _) _⟩
      ·have n1 : (x.kind == 1) = false := by simpa using k1
       by_cases k3 : x.kind = 3
       ·have n3 : (x.kind == 3) = true := by simpa using k3
        have HRR : Hid (R = ⟨1, x.size, 0, 0, 0, 0, 0⟩) := by unfold Hid; rw [HR2.out]; unfold itemP; simp [k3]
        go_wp2_with fail
        go_meet
        rw [HRR.out]
        exact ⟨heap_setCell_same _ _ 1 _ _ _ HIX.out, HB6.out.setCell (p := ⟨wr.heap.size + 1, 1, none⟩) (Nat.le_succ _) _⟩
       ·have n3 : (x.kind == 3) = false := by simpa using k3
        by_cases k4 : x.kind = 4
        ·have n4 : (x.kind == 4) = true := by simpa using k4
         have HRR : Hid (R = ⟨1, x.b.l.length, 0, 0, 0, 0, 0⟩) := by unfold Hid; rw [HR2.out]; unfold itemP; simp [k4]
         go_wp2_with fail
         go_meet
         rw [HRR.out]
         exact ⟨heap_setCell_same _ _ 1 _ _ _ HIX.out, HB6.out.setCell (p := ⟨wr.heap.size + 1, 1, none⟩) (Nat.le_succ _) _⟩
        ·have n4 : (x.kind == 4) = false := by simpa using k4
         by_cases k5 : x.kind = 5
         ·have n5 : (x.kind == 5) = true := by simpa using k5
          have HRR : Hid (R = ⟨2, 0, x.align, 0, 0, 0, 0⟩) := by unfold Hid; rw [HR2.out]; unfold itemP; simp [k5]
          go_wp2_with fail
          go_meet
          rw [HRR.out]
          exact ⟨put7 HIX.out _ _ _ _ _ _ _, below_put HB6.out (Nat.le_succ _) _ _ _ _ _ _ _⟩
         ·have n5 : (x.kind == 5) = false := by simpa using k5
          have HRR : Hid (R = ⟨1, 0, 0, 0, 0, 0, 0⟩) := by unfold Hid; rw [HR2.out]; unfold itemP; simp [k1, k2, k3, k4, k5]
          go_wp2_with fail
          go_meet
          rw [HRR.out]
          exact ⟨HIX.out, HB6.out⟩
    case rest =>
     obtain ⟨hx7, hb7⟩ := hcut
     clear y0 y3 y4 y8 y9 y10 i0 i1 i2 i3 i4 i5 i6 f0 f1 f2 f3 f4 f5 f6 c5 hlt1 hlt0
     obtain ⟨j0, j1, j2, j3, j4, j5, j6⟩ := itm_cells hx7
     have hor : wc.ownsRow W'.heap.size 74 7 (.slice vp k vc) k ((V.take k).flatMap Itm.cells) := own_below HO.out hb7
     have hbb : Below W'.heap.size W' wc := HB.out.trans (hb7.mono hwz)
     have hwzc := hbb.size
     have HX7 := hid hx7
     have HOR := hid hor
     have HBB := hid hbb
     clear hx7 hb7 hor hbb
     go_wp2_with ((with_reducible show wpList _ _ _ (⟨some 81, _, _, _, _, _⟩ :: _) _ _); go_loud (refine wpList_app EItem rfl _ _ rfl W'.heap.size (.slice vp k vc) k ((V.take k).flatMap Itm.cells) rfl (own_below HOR.out (alloc_below _ _)) _ 1 1 R.cells rfl rfl (by intro h; cases h) (row_blkAt (heap_alloc_new _ _)) (itm_ones _) (by unfold maxLen; omega) (by omega) (by simp; omega) ?_); intro v2 w2 ho2 hg2 hs2; have HO2 := hid ho2; have HB2 := hid ((HBB.out.alloc HBB.out.size _).grown hg2 (by simp; omega) (fun r e => own_ge HOR.out r e)); clear ho2 hg2 hs2)
     have hsz2 : (V.take (k + 1)).flatMap Itm.cells = (V.take k).flatMap Itm.cells ++ R.cells := by
      rw [List.take_add_one, HIT.out]; simp
     exact ⟨⟨k + 1, by omega, by go_num, by rw [hsz2]; exact HO2.out, HB2.out⟩, by simp [intOf]; omega⟩
   ·have hke : k = N := by omega
    subst hke
    have hDW : D < W'.heap.size := (Array.getElem?_eq_some_iff.1 hDd).1
    have HDD := hid ((hb.block D hDW).trans hDd)
    clear ho hb hDd c5 p3 u0
    go_wp2_with fail
    refine ⟨by simp, .inl ⟨_, _, rfl, run_takeDeferred HDD.out, ?_⟩⟩
    have hown := own_blk (w' := wr.putObj D (.deferred none)) HO.out (fun g hg => World.putObj_heap_other (by have := own_ge HO.out g hg; omega))
    obtain ⟨p2, c2, he, hr⟩ := own_shape hown
    cases he
    rw [List.take_of_length_le (by rw [HVL.out]; exact Nat.le_refl _), HVV.out] at hr
    have hbf : Below W.heap.size W (wr.putObj D (.deferred none)) := (HI.out.below.trans (HB.out.mono HI.out.below.size)).trans (belowK_b (w := W4) (by omega) _ _ _ _ hD HDD.out rfl rfl)
    refine ⟨.slice vp k vc, by simp [results, Try.results17, go_sem], vp, vc, by rw [HNN.out], hr, hbf⟩
 case stop =>
  rintro D c pre W' hD hpre hF
  exact hF.elim
end Go.Proofs.Ythlingholhjcnaa
