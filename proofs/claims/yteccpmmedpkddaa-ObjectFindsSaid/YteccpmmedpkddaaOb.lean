/-
  Objects as the walks have them.
-/
import Derived.Test.YteccpmmedpkddaaBase
import Derived.Test.YteccpmmedpkddaaOpenR
namespace Go.Proofs.Yteccpmmedpkddaa
open Go.RowKit

structure Rl where
  off : Int
  ty : Int
  sym : Int
  add : Int
  deriving DecidableEq
structure Sc where
  name : ByteArray
  kind : Int
  align : Int
  size : Int
  data : List Int
  dp : Option Addr
  dc : Nat
  rel : List Rl
  rp : Option Addr
  rc : Nat
structure Sy where
  name : ByteArray
  sec : Int
  val : Int
  glob : Bool
  deriving DecidableEq
structure Ob where
  secs : List Sc
  sp : Option Addr
  sc : Nat
  syms : List Sy
  yp : Option Addr
  yc : Nat
def Rl.cells (r : Rl) : List Value := [.int .i64 r.off, .int .i64 r.ty, .int .i64 r.sym, .int .i64 r.add]
def Sc.cells (s : Sc) : List Value := [.string s.name, .int .i64 s.kind, .int .i64 s.align, .int .i64 s.size, .slice s.dp s.data.length s.dc, .slice s.rp s.rel.length s.rc]
def Sy.cells (s : Sy) : List Value := [.string s.name, .int .i64 s.sec, .int .i64 s.val, .bool s.glob]
def Ob.cells (o : Ob) : List Value := [.slice o.sp o.secs.length o.sc, .slice o.yp o.syms.length o.yc]

def inI64 (n : Int) : Prop := -9223372036854775808 ≤ n ∧ n ≤ 9223372036854775807
def Rl.ok (r : Rl) : Prop := inI64 r.off ∧ inI64 r.ty ∧ inI64 r.sym ∧ inI64 r.add
def Sy.ok (s : Sy) : Prop := s.name.size ≤ 140737488351232 ∧ inI64 s.sec ∧ inI64 s.val
/-- A section's own parts. -/
structure Sc.ok (W : World) (s : Sc) : Prop where
  name : s.name.size ≤ 140737488351232
  kind : inI64 s.kind
  align : inI64 s.align
  size : inI64 s.size
  data : Row W s.dp (s.data.map (Value.int .u8))
  dcap : s.data.length ≤ s.dc ∧ s.dc ≤ 140737488351232 ∧ (s.dp = none → s.dc = 0)
  bytes : ∀ v ∈ s.data, (Lit.int .u8 v).wf = true
  rel : Row W s.rp (s.rel.flatMap Rl.cells)
  rcap : s.rel.length ≤ s.rc ∧ s.rc ≤ 4398046510976 ∧ (s.rp = none → s.rc = 0)
  rels : ∀ r ∈ s.rel, r.ok
theorem Sc.ok.below {W w : World} {s : Sc} (h : s.ok W) (hb : Below W.heap.size W w) : s.ok w :=
  ⟨h.name, h.kind, h.align, h.size, h.data.below hb, h.dcap, h.bytes, h.rel.below hb, h.rcap, h.rels⟩
structure Ob.ok (W : World) (o : Ob) : Prop where
  secs : Row W o.sp (o.secs.flatMap Sc.cells)
  scap : o.secs.length ≤ o.sc ∧ o.sc ≤ 4398046510976 ∧ (o.sp = none → o.sc = 0)
  each : ∀ s ∈ o.secs, s.ok W
  syms : Row W o.yp (o.syms.flatMap Sy.cells)
  ycap : o.syms.length ≤ o.yc ∧ o.yc ≤ 4398046510976 ∧ (o.yp = none → o.yc = 0)
  names : ∀ s ∈ o.syms, s.ok
theorem Ob.ok.below {W w : World} {o : Ob} (h : o.ok W) (hb : Below W.heap.size W w) : o.ok w :=
  ⟨h.secs.below hb, h.scap, fun s hs => (h.each s hs).below hb, h.syms.below hb, h.ycap, h.names⟩

theorem rl_cells {w : World} {b o : Nat} {ys : List Rl} (h : Row w (some ⟨b, o, none⟩) (ys.flatMap Rl.cells)) (k : Nat) (hk : k < ys.length) :
    w.cell? ⟨b, o + k * 4, none⟩ = some (.int .i64 ys[k].off) ∧ w.cell? ⟨b, o + k * 4 + 1, none⟩ = some (.int .i64 ys[k].ty) ∧ w.cell? ⟨b, o + k * 4 + 2, none⟩ = some (.int .i64 ys[k].sym) ∧ w.cell? ⟨b, o + k * 4 + 3, none⟩ = some (.int .i64 ys[k].add) := by
  have each : ∀ j (hj : j < 4), w.cell? ⟨b, o + (k * 4 + j), none⟩ = (Rl.cells ys[k])[j]? := fun j hj => by
    have hl := flat_len Rl.cells 4 (fun _ => rfl) ys
    rw [show k * 4 + j = 4 * k + j from by omega]
    rw [h.cell (4 * k + j) (by omega), ← flat_get Rl.cells 4 (fun _ => rfl) ys k hk j hj]
    exact (List.getElem?_eq_getElem (by have : 4 * k + j < (ys.flatMap Rl.cells).length := by omega
                                        exact this)).symm
  exact ⟨each 0 (by omega), each 1 (by omega), each 2 (by omega), each 3 (by omega)⟩
theorem sy_cells {w : World} {b o : Nat} {ys : List Sy} (h : Row w (some ⟨b, o, none⟩) (ys.flatMap Sy.cells)) (k : Nat) (hk : k < ys.length) :
    w.cell? ⟨b, o + k * 4, none⟩ = some (.string ys[k].name) ∧ w.cell? ⟨b, o + k * 4 + 1, none⟩ = some (.int .i64 ys[k].sec) ∧ w.cell? ⟨b, o + k * 4 + 2, none⟩ = some (.int .i64 ys[k].val) ∧ w.cell? ⟨b, o + k * 4 + 3, none⟩ = some (.bool ys[k].glob) := by
  have each : ∀ j (hj : j < 4), w.cell? ⟨b, o + (k * 4 + j), none⟩ = (Sy.cells ys[k])[j]? := fun j hj => by
    have hl := flat_len Sy.cells 4 (fun _ => rfl) ys
    rw [show k * 4 + j = 4 * k + j from by omega]
    rw [h.cell (4 * k + j) (by omega), ← flat_get Sy.cells 4 (fun _ => rfl) ys k hk j hj]
    exact (List.getElem?_eq_getElem (by have : 4 * k + j < (ys.flatMap Sy.cells).length := by omega
                                        exact this)).symm
  exact ⟨each 0 (by omega), each 1 (by omega), each 2 (by omega), each 3 (by omega)⟩
theorem sc_cells {w : World} {b o : Nat} {ys : List Sc} (h : Row w (some ⟨b, o, none⟩) (ys.flatMap Sc.cells)) (k : Nat) (hk : k < ys.length) :
    w.cell? ⟨b, o + k * 6, none⟩ = some (.string ys[k].name) ∧ w.cell? ⟨b, o + k * 6 + 1, none⟩ = some (.int .i64 ys[k].kind) ∧ w.cell? ⟨b, o + k * 6 + 2, none⟩ = some (.int .i64 ys[k].align) ∧ w.cell? ⟨b, o + k * 6 + 3, none⟩ = some (.int .i64 ys[k].size) ∧ w.cell? ⟨b, o + k * 6 + 4, none⟩ = some (.slice ys[k].dp ys[k].data.length ys[k].dc) ∧ w.cell? ⟨b, o + k * 6 + 5, none⟩ = some (.slice ys[k].rp ys[k].rel.length ys[k].rc) := by
  have each : ∀ j (hj : j < 6), w.cell? ⟨b, o + (k * 6 + j), none⟩ = (Sc.cells ys[k])[j]? := fun j hj => by
    have hl := flat_len Sc.cells 6 (fun _ => rfl) ys
    rw [show k * 6 + j = 6 * k + j from by omega]
    rw [h.cell (6 * k + j) (by omega), ← flat_get Sc.cells 6 (fun _ => rfl) ys k hk j hj]
    exact (List.getElem?_eq_getElem (by have : 6 * k + j < (ys.flatMap Sc.cells).length := by omega
                                        exact this)).symm
  exact ⟨each 0 (by omega), each 1 (by omega), each 2 (by omega), each 3 (by omega), each 4 (by omega), each 5 (by omega)⟩
end Go.Proofs.Yteccpmmedpkddaa
