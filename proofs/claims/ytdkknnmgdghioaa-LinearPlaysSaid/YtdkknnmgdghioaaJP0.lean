/-
  What the loop of plays keeps.
  plays: what one round keeps.
-/
import Derived.Test.YtdkknnmgdghioaaJF11
namespace Go.Proofs.Ytdkknnmgdghioaa
open Go.RowKit

abbrev M8 := List (Int × Int)
structure PlI (sc : List Dr) (w : World) (k : Nat) (v : Value) (mh mf : M8) (s : PlS) (W : World) : Prop where
  own : OwnC W (w.heap.size + 2) v s.l
  imh : MapIs (Value.int .u8) (Value.int .i64) W w.heap.size mh
  hv : ∀ x, alook mh x = s.hv x
  imf : MapIs (Value.int .i64) (Value.int .i64) W (w.heap.size + 1) mf
  fr : ∀ x, (alook mf x).getD 0 = s.fr x
  below : Below w.heap.size w W
  st : s = pRun 0 (sc.take k) pS0
theorem pRun_app : ∀ (a b : List Dr) (i : Nat) (s : PlS), pRun i (a ++ b) s = pRun (i + a.length) b (pRun i a s)
  | [], b, i, s => by simp [pRun]
  | d :: a, b, i, s => by
    show pRun (i + 1) (a ++ b) _ = pRun (i + (a.length + 1)) b (pRun (i + 1) a _)
    rw [pRun_app a b, Nat.add_assoc, Nat.add_comm 1]
theorem pRun_snoc {sc : List Dr} {k : Nat} (h : k < sc.length) : pRun 0 (sc.take (k + 1)) pS0 = pStep k sc[k] (pRun 0 (sc.take k) pS0) := by
  rw [List.take_add_one, List.getElem?_eq_getElem h]
  show pRun 0 (sc.take k ++ [sc[k]]) pS0 = _
  rw [pRun_app]
  have : (sc.take k).length = k := by simp; omega
  rw [Nat.zero_add, this]; rfl
variable {sc : List Dr} {w W W' : World} {k : Nat} {v : Value} {mh mf : M8} {s : PlS}
theorem PlI.belowI (h : PlI sc w k v mh mf s W) (hb : Below W.heap.size W W') : PlI sc w k v mh mf s W' :=
  ⟨own_below h.own hb, h.imh.below hb h.imh.lt, h.hv, h.imf.below hb h.imf.lt, h.fr, h.below.trans (hb.mono h.below.size), h.st⟩
theorem PlI.start (sc : List Dr) (w : World) : PlI sc w 0 (.slice none 0 0) [] [] pS0 ((w.alloc (.map #[] 0)).alloc (.map #[] 0)) := by
  refine ⟨⟨rfl, .inl ⟨rfl, rfl⟩⟩, (MapIs.made _ _ w).alloc _, fun x => rfl, ?_, fun x => rfl, ((Below.refl _ _).alloc (Nat.le_refl _) _).alloc (by simp) _, by simp [pRun]⟩
  have := MapIs.made (Value.int .i64) (Value.int .i64) (w.alloc (.map #[] 0))
  rwa [World.size_alloc] at this
theorem PlI.skip {d : Dr} (h : PlI sc w k v mh mf s W) (hk : k < sc.length) (hd : sc[k] = d) (hs : s.fr (wOf d) < 0 ∨ pAt k ≤ s.fr (wOf d)) : PlI sc w (k + 1) v mh mf s W := by
  refine ⟨h.own, h.imh, h.hv, h.imf, h.fr, h.below, ?_⟩
  rw [pRun_snoc hk, hd, ← h.st]
  unfold pStep
  rw [if_pos hs]
/-- A call that comes: the maps, the row. -/
theorem PlI.put {d : Dr} {v' : Value} {mh' mf' : M8} (h : PlI sc w k v mh mf s W) (hk : k < sc.length) (hd : sc[k] = d) (hs : ¬ (s.fr (wOf d) < 0 ∨ pAt k ≤ s.fr (wOf d)))
    (ho : OwnC W' (w.heap.size + 2) v' (s.l ++ [pOpen d (pCall k d s)])) (hmh : MapIs (Value.int .u8) (Value.int .i64) W' w.heap.size mh') (hhv : ∀ x, alook mh' x = (if d.kind % 2 + 1 = 1 ∧ s.hv (kOf d) = none then setI s.hv (kOf d) (some d.value) else s.hv) x)
    (hmf : MapIs (Value.int .i64) (Value.int .i64) W' (w.heap.size + 1) mf') (hfr : ∀ x, (alook mf' x).getD 0 = setI s.fr (wOf d) (if d.op then -1 else (pCall k d s).to) x) (hb : Below w.heap.size w W') : PlI sc w (k + 1) v' mh' mf' (pStep k d s) W' := by
  have e : pStep k d s = { l := s.l ++ [pOpen d (pCall k d s)], hv := if d.kind % 2 + 1 = 1 ∧ s.hv (kOf d) = none then setI s.hv (kOf d) (some d.value) else s.hv, fr := setI s.fr (wOf d) (if d.op then -1 else (pCall k d s).to) } := by
    unfold pStep; rw [if_neg hs]
  refine ⟨by rw [e]; exact ho, hmh, by rw [e]; exact hhv, hmf, by rw [e]; exact hfr, hb, ?_⟩
  rw [pRun_snoc hk, hd, ← h.st]
theorem KU8 : KeyOk Try.prog 5 (Value.int .u8) := keyOk_int Try.underlying5
theorem zero64 (w : World) : (zeroValue 2).run Try.prog w = .ok (.int .i64 0) w := by kernel_rfl
theorem zeroInt (w : World) : (zeroValue 3).run Try.prog w = .ok (.int .i64 0) w := by kernel_rfl
theorem wpList_free {ops : Array Oper} {rest : List Oper} {o : Oper} {a : Act} {Q : Exit → Act → World → Prop} (hg : Region.wanted o (yielded ops a.tmps) = true) (mo xo : Operand) (hop : o.op = Op.lookup 56 mo xo false) (b : Nat) (hm : a.eval mo = .map (some b)) (h : MapIs (Value.int .i64) (Value.int .i64) W b mf) (x : Int) (hx : a.eval xo = .int .i64 x) (f : Int) (hf : (alook mf x).getD 0 = f)
    (hK : wpList Try.prog ops Q rest (a.put o.dst (.int .i64 f)) W) : wpList Try.prog ops Q (o :: rest) a W := by
  rw [wpList, if_pos hg]
  refine .inl ?_
  unfold Oper.wp
  have hr := h.run_lookup K3 Try.underlying56 (zeroInt W) x false
  have e : ((alook mf x).map (Value.int .i64)).getD (.int .i64 0) = .int .i64 f := by
    rw [← hf]; cases alook mf x <;> rfl
  simp only [Bool.false_eq_true, if_false, e] at hr
  simp [execOp, hop, hm, hx, hr, Result.andThen]
  exact hK
theorem wpList_have {ops : Array Oper} {rest : List Oper} {o : Oper} {a : Act} {Q : Exit → Act → World → Prop} (hg : o.guard = none) (mo xo : Operand) (hop : o.op = Op.lookup 55 mo xo true) (b : Nat) (hm : a.eval mo = .map (some b)) (h : MapIs (Value.int .u8) (Value.int .i64) W b mh) (x : Int) (hx : a.eval xo = .int .u8 x) (f : Option Int) (hf : alook mh x = f)
    (hK : wpList Try.prog ops Q rest (a.put o.dst (.tuple #[.int .i64 (f.getD 0), .bool f.isSome])) W) : wpList Try.prog ops Q (o :: rest) a W := by
  refine wpList_maplook KU8 Try.underlying55 hg mo xo true hop (.int .i64 0) (zero64 W) b mh hm h x hx ?_
  rw [hf]
  have e : (f.map (Value.int .i64)).getD (.int .i64 0) = .int .i64 (f.getD 0) := by cases f <;> rfl
  simpa [e] using hK
end Go.Proofs.Ytdkknnmgdghioaa
namespace Go.Proofs.Ytdkknnmgdghioaa
open Go.RowKit

def dAt (l : List Dr) (k : Nat) : Dr := l.getD k ⟨0, 0, 0, 0, 0, false⟩
theorem dat_at (l : List Dr) (x : Nat) (h : x < l.length) : l[x] = dAt l x := by simp [dAt, List.getD_eq_getElem?_getD, h]
theorem dAt_mem {l : List Dr} (k : Nat) (h : k < l.length) : dAt l k ∈ l := by rw [← dat_at l k h]; exact List.getElem_mem h
theorem dr_cells {w : World} {b o : Nat} {ys : List Dr} (h : Row w (some ⟨b, o, none⟩) (ys.flatMap Dr.cells)) (k : Nat) (hk : k < ys.length) :
    w.cell? ⟨b, o + k * 6, none⟩ = some (.int .u8 (dAt ys k).w) ∧ w.cell? ⟨b, o + k * 6 + 1, none⟩ = some (.int .u8 (dAt ys k).kind) ∧ w.cell? ⟨b, o + k * 6 + 2, none⟩ = some (.int .u8 (dAt ys k).key) ∧ w.cell? ⟨b, o + k * 6 + 3, none⟩ = some (.int .i64 (dAt ys k).value) ∧ w.cell? ⟨b, o + k * 6 + 4, none⟩ = some (.int .u8 (dAt ys k).wider) ∧ w.cell? ⟨b, o + k * 6 + 5, none⟩ = some (.bool (dAt ys k).op) := by
  rw [← dat_at ys k hk]
  have each : ∀ j (hj : j < 6), w.cell? ⟨b, o + k * 6 + j, none⟩ = (ys[k]).cells[j]? := fun j hj => by
    have hlen := flat_len Dr.cells 6 (fun _ => rfl) ys
    have hlt : 6 * k + j < (ys.flatMap Dr.cells).length := by rw [hlen]; omega
    obtain ⟨b', o', e, _, hc⟩ := h.at (by omega)
    cases e
    have := hc (6 * k + j) hlt
    rw [show o + k * 6 + j = o + (6 * k + j) by omega, this, ← List.getElem?_eq_getElem hlt]
    exact flat_get Dr.cells 6 (fun _ => rfl) ys k hk j hj
  exact ⟨each 0 (by omega), each 1 (by omega), each 2 (by omega), each 3 (by omega), each 4 (by omega), each 5 (by omega)⟩

theorem conv1 {w : World} {b : Nat} {y : Int} (h : w.heap[b]? = some (.cells #[.int .u8 (97 + y)] 5 (0, 0))) : (convert 59 9 (.slice (some ⟨b, 0, none⟩) 1 1)).run Try.prog w = .ok (.string (nameOf y)) w := by
  have := run_convert_bytes_arg (P := Try.prog) w 59 5 Try.underlying59 Try.underlying5 b 0 1 1 [97 + y] rfl (fun i hi => by
    have hi0 : i = 0 := by omega
    subst hi0
    exact cell_of_row _ _ 0 _ _ _ h) 9 Try.underlying9
  rw [this]
  rfl
def PlRel (sc : List Dr) (w : World) (v i : Value) (wr : World) : Prop := ∃ (k : Nat) (mh mf : M8) (s : PlS), k ≤ min sc.length 40 ∧ i = .int .i64 k ∧ PlI sc w k v mh mf s wr
/-- Within a round: the script's call in its block, the call that comes in its own. -/
structure PlJ (w wr : World) (v : Value) (l : List Cl) (mh mf : M8) (d : Dr) (c : Cl) (W : World) : Prop where
  own : OwnC W (w.heap.size + 2) v l
  imh : MapIs (Value.int .u8) (Value.int .i64) W w.heap.size mh
  imf : MapIs (Value.int .i64) (Value.int .i64) W (w.heap.size + 1) mf
  below : Below w.heap.size w W
  d : W.heap[wr.heap.size]? = some (.cells d.cells.toArray 58 (0, 0))
  c : W.heap[wr.heap.size + 1 + 1]? = some (.cells c.cells.toArray 38 (0, 0))
  hb : w.heap.size + 2 ≤ wr.heap.size
  size : wr.heap.size + 1 + 1 < W.heap.size
  vlt : ∀ x, v.ownBlock = some x → x < wr.heap.size
section
variable {w wr W W' : World} {v : Value} {l : List Cl} {mh mf mm : M8} {d : Dr} {c : Cl}
theorem PlJ.set (h : PlJ w wr v l mh mf d c W) (i : Nat) (u : Value) (c' : Cl) (hc : c.cells.toArray.setIfInBounds i u = c'.cells.toArray) : PlJ w wr v l mh mf d c' (W.setCell ⟨wr.heap.size + 1 + 1, i, none⟩ u) := by
  have hb := h.hb
  have kept : ∀ b, b < wr.heap.size + 1 + 1 → (W.setCell ⟨wr.heap.size + 1 + 1, i, none⟩ u).heap[b]? = W.heap[b]? := fun b hlt => Below.heap_setCell _ _ _ _ (by show b ≠ wr.heap.size + 1 + 1; omega)
  obtain ⟨e1, k1, m1, F1⟩ := h.imh
  obtain ⟨e2, k2, m2, F2⟩ := h.imf
  refine ⟨own_setO h.own _ _ (fun g hg => by have := h.vlt g hg; show g ≠ wr.heap.size + 1 + 1; omega), ⟨e1, k1, (kept _ (by omega)).trans m1, F1⟩, ⟨e2, k2, (kept _ (by omega)).trans m2, F2⟩, h.below.setCell (by show w.heap.size ≤ wr.heap.size + 1 + 1; omega) _, (kept _ (by omega)).trans h.d, ?_, hb, by simpa using h.size, h.vlt⟩
  rw [← hc]
  exact heap_setCell_same W _ i _ _ _ h.c
theorem PlJ.setV (h : PlJ w wr v l mh mf d c W) (x : Int) : PlJ w wr v l mh mf d ⟨c.w, c.kind, c.key, x, c.fr, c.to, c.ans, c.err⟩ (W.setCell ⟨wr.heap.size + 1 + 1, 3, none⟩ (.int .i64 x)) := h.set 3 _ _ rfl
theorem PlJ.setT (h : PlJ w wr v l mh mf d c W) (x : Int) : PlJ w wr v l mh mf d ⟨c.w, c.kind, c.key, c.value, c.fr, x, c.ans, c.err⟩ (W.setCell ⟨wr.heap.size + 1 + 1, 5, none⟩ (.int .i64 x)) := h.set 5 _ _ rfl
theorem PlJ.setA (h : PlJ w wr v l mh mf d c W) (x : Int) : PlJ w wr v l mh mf d ⟨c.w, c.kind, c.key, c.value, c.fr, c.to, x, c.err⟩ (W.setCell ⟨wr.heap.size + 1 + 1, 6, none⟩ (.int .i64 x)) := h.set 6 _ _ rfl
theorem PlJ.setE (h : PlJ w wr v l mh mf d c W) (x : Int) : PlJ w wr v l mh mf d ⟨c.w, c.kind, c.key, c.value, c.fr, c.to, c.ans, x⟩ (W.setCell ⟨wr.heap.size + 1 + 1, 7, none⟩ (.int .i64 x)) := h.set 7 _ _ rfl
theorem PlJ.apart (h : PlJ w wr v l mh mf d c W) (b : Nat) (hb : b < w.heap.size + 2) : v.ownBlock = none ∨ v.ownBlock ≠ some b := by
  cases e : v.ownBlock with
  | none => exact .inl rfl
  | some x => exact .inr (fun e2 => by cases e2; have := own_ge h.own _ e; omega)
theorem PlJ.seth (h : PlJ w wr v l mh mf d c W) (hm : MapIs (Value.int .u8) (Value.int .i64) W' w.heap.size mm) (hg : W.grownBy W' (some w.heap.size)) : PlJ w wr v l mm mf d c W' := by
  have hb := h.hb
  have hs := h.size
  have hz := h.below.size
  exact ⟨h.own.kept hg (h.apart _ (by omega)), hm, h.imf.kept hg (by simp), h.below.grown hg hz (fun k e => by cases e; exact Nat.le_refl _), (hg.block _ (by omega) (fun e => by injection e with e; omega)).trans h.d, (hg.block _ (by omega) (fun e => by injection e with e; omega)).trans h.c, hb, Nat.lt_of_lt_of_le hs hg.size, h.vlt⟩
theorem PlJ.setf (h : PlJ w wr v l mh mf d c W) (hm : MapIs (Value.int .i64) (Value.int .i64) W' (w.heap.size + 1) mm) (hg : W.grownBy W' (some (w.heap.size + 1))) : PlJ w wr v l mh mm d c W' := by
  have hb := h.hb
  have hs := h.size
  have hz := h.below.size
  exact ⟨h.own.kept hg (h.apart _ (by omega)), h.imh.kept hg (by simp), hm, h.below.grown hg hz (fun k e => by cases e; omega), (hg.block _ (by omega) (fun e => by injection e with e; omega)).trans h.d, (hg.block _ (by omega) (fun e => by injection e with e; omega)).trans h.c, hb, Nat.lt_of_lt_of_le hs hg.size, h.vlt⟩
theorem PlJ.fin (h : PlJ w wr v l mh mf d c W) {o : Obj} (hg : (W.alloc o).grownBy W' v.ownBlock) : MapIs (Value.int .u8) (Value.int .i64) W' w.heap.size mh ∧ MapIs (Value.int .i64) (Value.int .i64) W' (w.heap.size + 1) mf ∧ Below w.heap.size w W' := by
  have hz := h.below.size
  have hne : ∀ b, b < w.heap.size + 2 → some b ≠ v.ownBlock := fun b hb e => by have := own_ge h.own _ e.symm; omega
  exact ⟨(h.imh.alloc o).kept hg (hne _ (by omega)), (h.imf.alloc o).kept hg (hne _ (by omega)), (h.below.alloc hz o).grown hg (by simp; omega) (fun k e => by have := own_ge h.own _ e; omega)⟩
end
theorem PlJ.start {sc : List Dr} {w wr w5 : World} {k : Nat} {v : Value} {mh mf : M8} {s : PlS} {d : Dr} {c : Cl} (h : PlI sc w k v mh mf s wr) (hb : Below wr.heap.size wr w5) (hs : w5.heap.size = wr.heap.size + 1) (hd : w5.heap[wr.heap.size]? = some (.cells d.cells.toArray 58 (0, 0))) (o : Obj) :
    PlJ w wr v s.l mh mf d c ((w5.alloc o).alloc (.cells c.cells.toArray 38)) := by
  have h5 := h.belowI hb
  have hf := h.imf.lt
  refine ⟨(h5.own.alloc _).alloc _, (h5.imh.alloc _).alloc _, (h5.imf.alloc _).alloc _, (h5.below.alloc h5.below.size _).alloc (by have := h5.below.size; simp; omega) _, ?_, ?_, by omega, by simp; omega, fun x hx => own_lt h.own x hx⟩
  · exact ((Below.heap_alloc _ _ _ (by simp; omega)).trans (Below.heap_alloc _ _ _ (by omega))).trans hd
  · have := heap_alloc_new (w5.alloc o) (.cells c.cells.toArray 38)
    rwa [World.size_alloc, hs] at this
/-- A round's end. -/
theorem PlI.put2 {sc : List Dr} {w W W' : World} {k : Nat} {v v' : Value} {mh mf mh' mf' : M8} {s : PlS} {d : Dr} {c : Cl} {hh : Option Int} {f fr te : Int} (h : PlI sc w k v mh mf s W) (hk : k < sc.length) (hd : sc[k] = d) (hf : s.fr (d.w % 6) = f) (h1 : ¬ f < 0) (h2 : ¬ 100 * (k : Int) + 300 ≤ f) (hfr : fr = max (100 * (k : Int) + 300 - 10 - d.wider) f) (hte : te = 100 * (k : Int) + 300 + 10 + d.wider) (hhv : s.hv (d.key % 4) = hh)
    (hc : c = ⟨d.w % 6, d.kind % 2 + 1, nameOf (d.key % 4), if d.kind % 2 + 1 = 1 then d.value else 0, fr, if d.op then -1 else te, if d.op then 0 else match (generalizing := false) hh with | some v => if d.kind % 2 + 1 = 1 then 0 else v | none => 0, if d.op then 0 else match (generalizing := false) hh with | some _ => if d.kind % 2 + 1 = 1 then 5 else 0 | none => if d.kind % 2 + 1 = 1 then 0 else 4⟩)
    (ho : W'.ownsRow (w.heap.size + 2) 38 8 v' (s.l.length + 1) (s.l.flatMap Cl.cells ++ c.cells))
    (hmh : mh' = if d.kind % 2 + 1 = 1 ∧ hh = none then aset mh (d.key % 4) d.value else mh) (hmf : mf' = if d.op then aset (aset mf (d.w % 6) te) (d.w % 6) (-1) else aset mf (d.w % 6) te)
    (hJ : MapIs (Value.int .u8) (Value.int .i64) W' w.heap.size mh' ∧ MapIs (Value.int .i64) (Value.int .i64) W' (w.heap.size + 1) mf' ∧ Below w.heap.size w W') : PlI sc w (k + 1) v' mh' mf' (pStep k d s) W' := by
  have hc2 : pOpen d (pCall k d s) = c := by
    subst hc hfr hte hhv hf
    obtain ⟨dw, dk, dy, dv, de, dp⟩ := d
    unfold pOpen pCall kOf wOf pAt
    dsimp only
    cases dp with
    | true => rfl
    | false =>
      simp only [Bool.false_eq_true, if_false, Cl.mk.injEq, true_and, and_true]
      constructor
      · cases s.hv (dy % 4) <;> rfl
      · cases s.hv (dy % 4) <;> rfl
  refine h.put hk hd ?_ ?_ hJ.1 ?_ hJ.2.1 ?_ hJ.2.2
  · show ¬ (s.fr (d.w % 6) < 0 ∨ 100 * (k : Int) + 300 ≤ s.fr (d.w % 6))
    rw [hf]; omega
  · rw [hc2]
    show World.ownsRow W' (w.heap.size + 2) 38 8 v' (s.l ++ [c]).length ((s.l ++ [c]).flatMap Cl.cells)
    rw [List.flatMap_append, List.length_append]
    simpa using ho
  · intro x
    rw [hmh]
    show _ = (if d.kind % 2 + 1 = 1 ∧ s.hv (d.key % 4) = none then setI s.hv (d.key % 4) (some d.value) else s.hv) x
    rw [hhv]
    by_cases hx : d.kind % 2 + 1 = 1 ∧ hh = none
    · rw [if_pos hx, if_pos hx, alook_aset]
      unfold setI
      by_cases e : x = d.key % 4
      · rw [if_pos e, if_pos e]
      · rw [if_neg e, if_neg e, h.hv]
    · rw [if_neg hx, if_neg hx, h.hv]
  · intro x
    rw [hmf]
    show _ = setI s.fr (d.w % 6) (if d.op then -1 else 100 * (k : Int) + 300 + 10 + d.wider) x
    rw [← hte]
    unfold setI
    cases d.op with
    | true =>
      simp only [if_true, alook_aset]
      by_cases e : x = d.w % 6
      · simp [e]
      · simp [e, h.fr]
    | false =>
      simp only [Bool.false_eq_true, if_false, alook_aset]
      by_cases e : x = d.w % 6
      · simp [e]
      · simp [e, h.fr]
theorem plays_len {sc : List Dr} (hok : ∀ d ∈ sc, d.ok) (k : Nat) : (pRun 0 (sc.take k) pS0).l.length ≤ k := by
  have := (prun (sc.take k) 0 pS0 (fun d hd => (hok d (List.mem_of_mem_take hd)).dr) pinv0).len
  simp at this; omega
end Go.Proofs.Ytdkknnmgdghioaa
