/-
  New of the document's deque.
-/
import Derived.Test.YtpgdpddmgljpmaaR8
namespace Go.Proofs.Ytpgdpddmgljpmaa
open Go.RowKit
variable {W W' w : World} {c : RC} {av : Nat → Value} {R S : Dq}
variable {p1 p2 : Option Addr} {c1 c2 : Nat} {own : List (Int × Int)} {th : List Int}

theorem E74 : Elem Try.prog 74 25 1 24 (.slice none 0 0) := Elem.mk' Try.underlying74 (by kernel_rfl) rfl (by decide)
theorem E75 : Elem Try.prog 75 80 5 40 (.agg #[.int .i64 0, .int .i64 0, .int .i64 0, .bool false, .int .i64 0]) := Elem.mk' Try.underlying75 (by kernel_rfl) rfl (by decide)
theorem E76 : Elem Try.prog 76 37 1 24 (.slice none 0 0) := Elem.mk' Try.underlying76 (by kernel_rfl) rfl (by decide)
theorem made75 (n : Nat) (x : Hd) (hx : hcells x = [.int .i64 0, .int .i64 0, .int .i64 0, .bool false, .int .i64 0]) : madeCells (Value.agg #[.int .i64 0, .int .i64 0, .int .i64 0, .bool false, .int .i64 0]).cells (n * 5) = ((List.replicate n x).flatMap hcells).toArray := by
  have hc : (Value.agg #[.int .i64 0, .int .i64 0, .int .i64 0, .bool false, .int .i64 0]).cells = #[.int .i64 0, .int .i64 0, .int .i64 0, .bool false, .int .i64 0] := rfl
  rw [hc]
  have hl := rflat_len hcells 5 hcells_len (List.replicate n x)
  rw [List.length_replicate] at hl
  apply Array.ext_getElem?
  intro j
  by_cases hj : j < n * 5
  · have h1 := flat_at hcells 5 hcells_len (List.replicate n x) (j / 5) (by simp; omega) (j % 5) (by omega)
    rw [show j / 5 * 5 + j % 5 = j by omega] at h1
    simp only [List.getElem_replicate] at h1
    have h2 : ((List.replicate n x).flatMap hcells).toArray[j]? = (hcells x)[j % 5]? := by rw [List.getElem?_toArray]; exact h1
    rw [h2, hx]
    unfold madeCells
    have h5 : j % 5 = 0 ∨ j % 5 = 1 ∨ j % 5 = 2 ∨ j % 5 = 3 ∨ j % 5 = 4 := by omega
    rcases h5 with h | h | h | h | h <;> simp [h, hj]
  · rw [Array.getElem?_eq_none (by simp [madeCells]; omega), Array.getElem?_eq_none (by simp only [List.size_toArray]; omega)]
theorem made76 (n : Nat) : madeCells (Value.slice none 0 0).cells (n * 1) = (List.replicate n (Value.slice none 0 0)).toArray := by
  have hc : (Value.slice none 0 0).cells = #[.slice none 0 0] := rfl
  rw [hc]
  apply Array.ext_getElem?
  intro j
  by_cases hj : j < n
  · unfold madeCells
    have : j % 1 = 0 := by omega
    simp [hj, this]
  · rw [Array.getElem?_eq_none (by simp [madeCells]; omega), Array.getElem?_eq_none (by simp; omega)]
set_option maxRecDepth 100000 in
theorem mk75 (w : World) (n : Nat) (x : Hd) (hx : hcells x = [.int .i64 0, .int .i64 0, .int .i64 0, .bool false, .int .i64 0]) (hr : n ≤ 64) : (Instr.makeSlice 75 (.int .i64 n) (.int .i64 n)).run Try.prog w = .ok (.slice (some ⟨w.heap.size, 0, none⟩) n n) (w.alloc (.cells ((List.replicate n x).flatMap hcells).toArray 80)) := by
  obtain ⟨i, hi, hz, hsz, hby⟩ := E75.info
  have h1 : (0 : Int) ≤ n := Int.natCast_nonneg _
  have h3 : (i.bytes : Int) * n ≤ 281474976710656 := by rw [hby]; omega
  have h4 : (n : Int) ≤ 9223372036854775807 := by omega
  have := run_make (P := Try.prog) w 75 80 i _ E75.desc hi hz .i64 .i64 n n h1 (Int.le_refl _) h3 h4
  rw [Int.toNat_natCast, hsz, made75 n x hx] at this
  exact this
set_option maxRecDepth 100000 in
theorem mk76 (w : World) (n : Nat) (hr : n ≤ 64) : (Instr.makeSlice 76 (.int .i64 n) (.int .i64 n)).run Try.prog w = .ok (.slice (some ⟨w.heap.size, 0, none⟩) n n) (w.alloc (.cells (List.replicate n (Value.slice none 0 0)).toArray 37)) := by
  obtain ⟨i, hi, hz, hsz, hby⟩ := E76.info
  have h1 : (0 : Int) ≤ n := Int.natCast_nonneg _
  have h3 : (i.bytes : Int) * n ≤ 281474976710656 := by rw [hby]; omega
  have h4 : (n : Int) ≤ 9223372036854775807 := by omega
  have := run_make (P := Try.prog) w 76 37 i _ E76.desc hi hz .i64 .i64 n n h1 (Int.le_refl _) h3 h4
  rw [Int.toNat_natCast, hsz, made76] at this
  exact this

/-- The operations of worker i. -/
def opsAt (own : List (Int × Int)) (th : List Int) (i : Nat) : List (Int × Int) := if i = 0 then own else List.replicate (th.getD (i - 1) 0).toNat (3, 0)
/-- What is there while New adds the thieves. -/
structure RNI (n0 : Nat) (w W : World) (r : Nat) (own : List (Int × Int)) (th : List Int) (k : Nat) (vops : Value) (ov : Nat → Value) : Prop where
  rr : W.heap[w.heap.size + 1 + 1]? = some (.cells #[i64 r, i64 0, i64 0, .slice (some ⟨w.heap.size, 0, none⟩) r r, vops, .slice none 0 0, .slice none 0 0, i64 0] 78 (0, 0))
  qq : PAt W w.heap.size (List.replicate r 0)
  oo : W.ownsRow w.heap.size 25 1 vops (k + 1) ((List.range (k + 1)).map ov)
  ow : ∀ i, i ≤ k → RWork W n0 w.heap.size (ov i) (opsAt own th i)
  nw : n0 ≤ w.heap.size
  b : Below w.heap.size w W
theorem RWork.of_own {W : World} {n m base : Nat} {v : Value} {ops : List (Int × Int)} (h : W.ownsRow base 27 2 v ops.length (opCells ops)) (hm : m ≤ base) : RWork W n m v ops := by
  obtain ⟨p, cc, rfl, _, _, hr, _, _⟩ := own_row h
  exact ⟨p, cc, rfl, hr, fun a ha _ => by
    obtain ⟨cur, hc⟩ := own_typeA h a.block (by subst ha; rfl)
    exact .inr ⟨Nat.le_trans hm (own_ge h a.block (by subst ha; rfl)), cur, _, hc⟩⟩
theorem RNI.below {n0 : Nat} {w W W' : World} {r k : Nat} {vops : Value} {ov : Nat → Value} (h : RNI n0 w W r own th k vops ov) (hb : Below W.heap.size W W') : RNI n0 w W' r own th k vops ov := by
  have hs := h.b.size
  exact ⟨(hb.block _ (Array.getElem?_eq_some_iff.1 h.rr).1).trans h.rr, (hb.block _ (Array.getElem?_eq_some_iff.1 h.qq).1).trans h.qq, own_below h.oo hb, fun i hi => (h.ow i hi).blk (fun hne a m c' e => by
    obtain ⟨p, c', e', _, ht⟩ := (h.ow i hi).ex
    rw [e] at e'; cases e'
    have hnw := h.nw
    rcases ht a rfl hne with h2 | ⟨_, cur, fz, hc⟩
    · exact hb.block _ (by omega)
    · exact hb.block _ (Array.getElem?_eq_some_iff.1 hc).1), h.nw, h.b.trans (hb.mono hs)⟩
/-- A thief more. -/
theorem RNI.more {n0 : Nat} {w W w4 : World} {r k : Nat} {vops v' l : Value} {ov : Nat → Value} (h : RNI n0 w W r own th k vops ov) (ho : Only [vops.ownBlock] W w4) (hrow : w4.ownsRow w.heap.size 25 1 v' (k + 1 + 1) ((List.range (k + 1)).map ov ++ [l])) (hl : RWork W n0 w.heap.size l (opsAt own th (k + 1))) :
    RNI n0 w (w4.setCell ⟨w.heap.size + 1 + 1, 4, none⟩ v') r own th (k + 1) v' (fun j => if j = k + 1 then l else ov j) := by
  have hs := h.b.size
  have kblk : ∀ (b : Nat) (ds : Array Value) (f : TypeId), W.heap[b]? = some (.cells ds f (0, 0)) → f ≠ 25 → w4.heap[b]? = W.heap[b]? := fun b ds f hb hf => ho.block b (Array.getElem?_eq_some_iff.1 hb).1 (by
    simp only [List.mem_singleton]
    intro e
    exact own_ne h.oo hb (Ne.symm hf) b e.symm rfl)
  have hr4 : w4.heap[w.heap.size + 1 + 1]? = _ := (kblk _ _ _ h.rr (by decide)).trans h.rr
  have w4k : ∀ (v : Value) (ops : List (Int × Int)), RWork W n0 w.heap.size v ops → RWork w4 n0 w.heap.size v ops := fun v ops hv => hv.only (Nat.le_trans h.nw hs) ho (fun b hb hm => by
    simp only [List.mem_singleton] at hm
    refine ⟨Nat.le_trans h.nw (own_ge h.oo b hm.symm), fun cur fz hc => ?_⟩
    obtain ⟨cur2, hc2⟩ := own_typeA h.oo b hm.symm
    rw [hc] at hc2; cases hc2)
  refine ⟨heap_setCell_same w4 _ 4 _ _ v' hr4, (Below.heap_setCell w4 _ _ _ (by show w.heap.size ≠ w.heap.size + 1 + 1; omega)).trans ((kblk _ _ _ h.qq (by decide)).trans h.qq), ?_, ?_, h.nw, ?_⟩
  · have e : (List.range (k + 1 + 1)).map (fun j => if j = k + 1 then l else ov j) = (List.range (k + 1)).map ov ++ [l] := by
      rw [List.range_succ, List.map_append]
      congr 1
      · apply List.map_congr_left
        intro j hj
        have := List.mem_range.1 hj
        simp [show j ≠ k + 1 by omega]
      · simp
    rw [e]
    exact own_setO hrow _ _ (own_ne hrow hr4 (by decide))
  · intro j hj
    by_cases e : j = k + 1
    · subst e
      simp only [if_true]
      exact rwork_ne (w4k _ _ hl) hr4 (by have := h.nw; omega) (by decide) _ _ rfl
    · simp only [if_neg e]
      exact rwork_ne (w4k _ _ (h.ow j (by omega))) hr4 (by have := h.nw; omega) (by decide) _ _ rfl
  · have hb4 : Below w.heap.size w w4 := ⟨ho.os.trans h.b.os, ho.tape.trans h.b.tape, ho.output.trans h.b.output, Nat.le_trans hs ho.size, fun b hb => (ho.block b (by omega) (by
      simp only [List.mem_singleton]
      intro e
      have := own_ge h.oo b e.symm
      omega)).trans (h.b.block b hb)⟩
    exact hb4.setCell (by show w.heap.size ≤ w.heap.size + 1 + 1; omega) _
theorem zeros_hs (r : Nat) (own : List (Int × Int)) (th : List Int) : (newDq r own th).hs.flatMap hcells = (List.replicate (th.length + 1) (hd0 own)).flatMap hcells := by
  unfold newDq
  rw [List.replicate_succ, List.flatMap_cons, List.flatMap_cons]
  congr 1
  induction th with
  | nil => rfl
  | cons a b ih => rw [List.map_cons, List.length_cons, List.replicate_succ, List.flatMap_cons, List.flatMap_cons, ih]; rfl
theorem rnew_is {n0 : Nat} {w W : World} {r n oc : Nat} {op : Option Addr} {ov : Nat → Value} (H : RNI n0 w W r own th th.length (.slice op n oc) ov) (hn : n = th.length + 1) :
    RefIs ((((W.setCell ⟨w.heap.size + 1 + 1, 5, none⟩ (.slice (some ⟨W.heap.size, 0, none⟩) n n)).setCell ⟨w.heap.size + 1 + 1, 6, none⟩ (.slice (some ⟨W.heap.size + 1, 0, none⟩) n n)).alloc (.cells ((List.replicate n (hd0 own)).flatMap hcells).toArray 80)).alloc (.cells (Array.replicate n (.slice none 0 0)) 37))
      ⟨n0, w.heap.size, w.heap.size + 1 + 1, w.heap.size, W.heap.size, W.heap.size + 1, r, oc, op, ov⟩ (fun _ => .slice none 0 0) (newDq r own th) ∧
    Below w.heap.size w ((((W.setCell ⟨w.heap.size + 1 + 1, 5, none⟩ (.slice (some ⟨W.heap.size, 0, none⟩) n n)).setCell ⟨w.heap.size + 1 + 1, 6, none⟩ (.slice (some ⟨W.heap.size + 1, 0, none⟩) n n)).alloc (.cells ((List.replicate n (hd0 own)).flatMap hcells).toArray 80)).alloc (.cells (Array.replicate n (.slice none 0 0)) 37)) := by
  have hs := H.b.size
  have hlt := (Array.getElem?_eq_some_iff.1 H.rr).1
  have hl : (newDq r own th).hs.length = n := by rw [hn]; simp [newDq]
  have hset := heap_setCell_same _ _ 6 _ _ (.slice (some ⟨W.heap.size + 1, 0, none⟩) n n) (heap_setCell_same W _ 5 _ _ (.slice (some ⟨W.heap.size, 0, none⟩) n n) H.rr)
  have keep : ∀ b, b < W.heap.size → b ≠ w.heap.size + 1 + 1 → ((((W.setCell ⟨w.heap.size + 1 + 1, 5, none⟩ (.slice (some ⟨W.heap.size, 0, none⟩) n n)).setCell ⟨w.heap.size + 1 + 1, 6, none⟩ (.slice (some ⟨W.heap.size + 1, 0, none⟩) n n)).alloc (.cells ((List.replicate n (hd0 own)).flatMap hcells).toArray 80)).alloc (.cells (Array.replicate n (.slice none 0 0)) 37)).heap[b]? = W.heap[b]? := fun b hb hne => by
    refine (heap_alloc_miss _ _ _ (by simp; omega)).trans ((heap_alloc_miss _ _ _ (by simp; omega)).trans ((Below.heap_setCell _ _ _ _ hne).trans (Below.heap_setCell _ _ _ _ hne)))
  have oo1 := own_setO (own_setO H.oo ⟨w.heap.size + 1 + 1, 5, none⟩ (.slice (some ⟨W.heap.size, 0, none⟩) n n) (own_ne H.oo H.rr (by decide))) ⟨w.heap.size + 1 + 1, 6, none⟩ (.slice (some ⟨W.heap.size + 1, 0, none⟩) n n) (own_ne H.oo H.rr (by decide))
  refine ⟨⟨?_, ?_, ?_, ?_, ?_, ?_, ?_, ?_, by simp; omega, by show w.heap.size ≤ w.heap.size + 1 + 1; omega, Nat.le_refl _, by show w.heap.size ≤ W.heap.size; omega, by show w.heap.size ≤ W.heap.size + 1; omega, H.nw⟩, ?_⟩
  · rw [hl]
    refine (heap_alloc_miss _ _ _ (by simp; omega)).trans ((heap_alloc_miss _ _ _ (by simp; omega)).trans (hset.trans ?_))
    simp [newDq]
  · exact (keep w.heap.size (by omega) (by omega)).trans H.qq
  · rw [hl]
    have := (oo1.alloc (.cells ((List.replicate n (hd0 own)).flatMap hcells).toArray 80)).alloc (.cells (Array.replicate n (.slice none 0 0)) 37)
    rw [← hn] at this
    exact this
  · rw [zeros_hs, ← hn]
    exact (heap_alloc_miss _ _ _ (by simp)).trans (heap_alloc_at _ _ _ (by simp))
  · rw [hl]
    refine (heap_alloc_at _ _ _ (by simp)).trans ?_
    congr 2
    apply Array.toList_inj.1
    simp only [Array.toList_replicate]
    rw [List.map_const', List.length_range]
  · intro i hi
    have : (newDq r own th).hs[i].said = [] := by
      have hm := List.getElem_mem hi
      rcases List.mem_cons.1 hm with h | h
      · rw [h]; rfl
      · obtain ⟨q, _, h⟩ := List.mem_map.1 h; rw [← h]; rfl
    rw [this]
    exact World.ownsRow_nil _ _ _ _
  · intro i hi
    have e : (newDq r own th).hs[i].ops = opsAt own th i := by
      cases i with
      | zero => rfl
      | succ j =>
        have hj : j < th.length := by rw [hl, hn] at hi; omega
        unfold opsAt
        rw [if_neg (by omega), Nat.add_sub_cancel, List.getD_eq_getElem?_getD, List.getElem?_eq_getElem hj]
        simp [newDq, hd0]
    rw [e]
    refine (H.ow i (by rw [hl, hn] at hi; omega)).blk (fun hne a m c' e => ?_)
    obtain ⟨p, c', e', _, ht⟩ := (H.ow i (by rw [hl, hn] at hi; omega)).ex
    rw [e] at e'; cases e'
    have hnw := H.nw
    rcases ht a rfl hne with h2 | ⟨_, cur, fz, hc⟩
    · exact keep _ (by omega) (by omega)
    · refine keep _ (Array.getElem?_eq_some_iff.1 hc).1 (fun h => ?_)
      rw [h, H.rr] at hc; cases hc
  · intro i j hi hj _
    exact Apart.nil _
  · have h1 := (H.b.setCell (p := ⟨w.heap.size + 1 + 1, 5, none⟩) (by show w.heap.size ≤ w.heap.size + 1 + 1; omega) (.slice (some ⟨W.heap.size, 0, none⟩) n n)).setCell (p := ⟨w.heap.size + 1 + 1, 6, none⟩) (by show w.heap.size ≤ w.heap.size + 1 + 1; omega) (.slice (some ⟨W.heap.size + 1, 0, none⟩) n n)
    exact Below.allocS (Below.allocS h1 _) _
abbrev NoRef (w : World) (n : Int) (e : Ending) (w' : World) : Prop := e = .returned (.tuple #[.pointer none, .int .i64 n]) ∧ Below w.heap.size w w'
theorem rnew_room (r : Int) (h : r < 1 ∨ 256 < r) (hl : th.length ≤ maxLen) : Calls Try.prog 19 #[.int .i64 r, .slice p1 own.length c1, .slice p2 th.length c2] w (NoRef w 1) := by
  unfold maxLen at hl
  rcases h with h | h
  · have h1 : decide (r < 1) = true := by simpa using h
    go_enter Try.func19, Try.ntmps19
    go_wp2
    go_ret2
    exact ⟨rfl, Below.refl _ _⟩
  · have h1 : decide (r < 1) = false := by simp; omega
    have h2 : decide (256 < r) = true := by simpa using h
    go_enter Try.func19, Try.ntmps19
    go_wp2
    go_ret2
    exact ⟨rfl, Below.refl _ _⟩
theorem rnew_many (r : Int) (h1 : 1 ≤ r) (h2 : r ≤ 256) (h : 63 < th.length) (hl : th.length ≤ maxLen) : Calls Try.prog 19 #[.int .i64 r, .slice p1 own.length c1, .slice p2 th.length c2] w (NoRef w 1) := by
  unfold maxLen at hl
  have g1 : decide (r < 1) = false := by simp; omega
  have g2 : decide (256 < r) = false := by simp; omega
  have g3 : decide (64 ≤ (th.length : Int)) = true := by simp; omega
  go_enter Try.func19, Try.ntmps19
  go_wp2
  go_ret2
  exact ⟨rfl, Below.refl _ _⟩
/-- What New of the document gives. -/
def RNewPost (n0 : Nat) (w : World) (r : Int) (own : List (Int × Int)) (th : List Int) (e : Ending) (w' : World) : Prop :=
  (newE r own th = 0 ∧ ∃ (c : RC) (av : Nat → Value), e = .returned (.tuple #[.pointer (some ⟨c.r, 0, none⟩), .int .i64 0]) ∧ c.n0 = n0 ∧ c.base = w.heap.size ∧ RefIs w' c av (newDq r.toNat own th) ∧ Below w.heap.size w w') ∨
  (newE r own th ≠ 0 ∧ e = .returned (.tuple #[.pointer none, .int .i64 (newE r own th)]) ∧ Below w.heap.size w w')
theorem RNewPost.bad {n0 : Nat} {r : Int} {n : Int} {e : Ending} {w' : World} (h : newE r own th = n) (h0 : n ≠ 0) (he : e = .returned (.tuple #[.pointer none, .int .i64 n])) (hb : Below w.heap.size w w') : RNewPost n0 w r own th e w' := .inr ⟨by rw [h]; exact h0, by rw [h]; exact he, hb⟩
theorem newE_neg {r : Int} (hx : ∃ n ∈ th, n < 0) : newE r own th = 1 := by
  obtain ⟨n, hn, h⟩ := hx
  exact if_pos (.inr (.inr (.inr (List.any_eq_true.2 ⟨n, hn, by simpa using h⟩))))
theorem newE_rest {r : Int} (h1 : 1 ≤ r) (h2 : r ≤ 256) (h3 : th.length ≤ 63) (h4 : ∀ n ∈ th, 0 ≤ n) : newE r own th = if 4096 < own.length + th.sum then 3 else if ¬ (∀ o ∈ own, opOk o) then 240 else 0 := by
  unfold newE
  have h5 : th.any (fun n => decide (n < 0)) = false := by
    rw [List.any_eq_false]; intro n hn; have := h4 n hn; simp; omega
  rw [if_neg (by rw [h5]; simp; omega)]

set_option maxRecDepth 100000 in
set_option maxHeartbeats 4000000 in
theorem rnew_walk (r : Nat) (h1 : 1 ≤ r) (h2 : r ≤ 256) (h3 : th.length ≤ 63) (HI : NewIn w p1 c1 own p2 c2 th) (hw : ∀ n ∈ th, -9223372036854775808 ≤ n ∧ n ≤ 9223372036854775807) (hol : own.length ≤ 140737488355328) (n0 : Nat) (hn0 : n0 ≤ w.heap.size) (hp1 : ∀ a, p1 = some a → own ≠ [] → a.block < n0) :
    Calls Try.prog 19 #[.int .i64 r, .slice p1 own.length c1, .slice p2 th.length c2] w (RNewPost n0 w r own th) := by
  have HW := hid hw
  have HN0 := hid hn0
  have HII := hid HI
  have HP1 := hid hp1
  have hol2 : (own.length : Int) ≤ 140737488355328 := by omega
  have g1 : decide ((r : Int) < 1) = false := by simp; omega
  have g2 : decide (256 < (r : Int)) = false := by simp; omega
  have g3 : decide (64 ≤ (th.length : Int)) = false := by simp; omega
  have h2I : (r : Int) ≤ 256 := by omega
  have h3I : (th.length : Int) ≤ 63 := by omega
  have HMK := hid (fun w => mk43 w r h2)
  clear hw hp1
  go_enter Try.func19, Try.ntmps19
  go_wp2
  go_loopw [8, 9] (fun v i wr => wr = w ∧ ∃ (k : Nat) (m : Int), k ≤ th.length ∧ i = .int .i64 k ∧ v = .int .i64 m ∧ (∀ j (hj : j < th.length), j < k → 0 ≤ th[j]) ∧ 0 ≤ m ∧ m ≤ 140737488359426 ∧ (own.length + (th.take k).sum ≤ 4096 → m = own.length + (th.take k).sum) ∧ (4096 < own.length + (th.take k).sum → 4096 < m)) (fun _ i _ => th.length - (intOf i).toNat)
  case atStart => exact ⟨rfl, 0, own.length, Nat.zero_le _, rfl, rfl, fun _ _ h => absurd h (Nat.not_lt_zero _), by omega, by omega, by simp, by simp⟩
  case round =>
    obtain ⟨rfl, k, m, hk, rfl, rfl, hpos, hm0, hm1, hm2, hm3⟩ := hrel
    have HPOS := hid hpos
    have HM2 := hid hm2
    have HM3 := hid hm3
    clear hpos hm2 hm3
    by_cases hlt : k < th.length
    · obtain ⟨b, o, rfl, _, hcell⟩ := HII.out.r2.at (by simp; omega)
      have hck := hcell k (by simpa using hlt)
      simp only [List.getElem_map] at hck
      have hS := hid (sum_take th k hlt)
      have hkI : (k : Int) < th.length := by omega
      have hx2 := HW.out _ (List.getElem_mem hlt)
      have HNX : Hid (0 ≤ th[k] → ∀ j (hj : j < th.length), j < k + 1 → 0 ≤ th[j]) := fun h j hj hjk => by
        by_cases e : j = k
        · subst e; exact h
        · exact HPOS.out j hj (by omega)
      have HNG : Hid (th[k] < 0 → newE (r : Int) own th = 1) := fun h => newE_neg ⟨_, List.getElem_mem hlt, h⟩
      clear hcell
      generalize th[k] = x at *
      generalize (th.take k).sum = sm at *
      by_cases hx : x < 0
      · have hxd : decide (x < 0) = true := by simpa using hx
        go_wp2
        go_ret2
        exact RNewPost.bad (HNG.out hx) (by decide) rfl (Below.refl _ _)
      · have hxd : decide (x < 0) = false := by simpa using hx
        have hx0 : 0 ≤ x := by omega
        go_wp2
        all_goals
          go_roundw
          case rel =>
            refine ⟨trivial, k + 1, _, by omega, by go_num, rfl, HNX.out hx0, ?_, ?_, ?_, ?_⟩
            · omega
            · omega
            · rw [hS.out]; have h5 := HM2.out; have h6 := HM3.out; omega
            · rw [hS.out]; have h5 := HM2.out; have h6 := HM3.out; omega
          case measure => simp [intOf]; omega
    · obtain rfl : k = th.length := by omega
      have hneg : ∀ n ∈ th, 0 ≤ n := fun n hn => by
        obtain ⟨j, hj, rfl⟩ := List.mem_iff_getElem.1 hn
        exact HPOS.out j hj hj
      have HNEG := hid hneg
      have HE := hid (newE_rest (own := own) (r := (r : Int)) (by omega) (by omega) h3 hneg)
      have hm4 := HM2.out
      have hm5 := HM3.out
      rw [List.take_length] at hm4 hm5
      clear HPOS HM2 HM3 hneg hlt hk
      by_cases hT : 4096 < own.length + th.sum
      · have hmd : decide (4096 < m) = true := by simpa using hm5 hT
        rw [if_pos hT] at HE
        clear hm4 hm5
        go_wp2
        go_ret2
        exact RNewPost.bad HE.out (by decide) rfl (Below.refl _ _)
      · have hmd : decide (4096 < m) = false := by have := hm4 (by omega); simp; omega
        rw [if_neg hT] at HE
        clear hm4 hm5
        go_wp2
        have hoI : (own.length : Int) ≤ 4096 := by have := sum_pos th HNEG.out; omega
        obtain ⟨wo, hwo⟩ : ∃ wo : World, wo = wr := ⟨_, rfl⟩
        rw [← hwo] at HII HN0 ⊢
        have HWO := hid hwo
        clear hwo
        go_loopw [10] (fun i wr => wr = wo ∧ ∃ k : Nat, k ≤ own.length ∧ i = .int .i64 k ∧ (∀ j (hj : j < own.length), j < k → opOk own[j])) (fun i _ => own.length - (intOf i).toNat)
        case atStart => exact ⟨rfl, 0, Nat.zero_le _, rfl, fun _ _ h => absurd h (Nat.not_lt_zero _)⟩
        case round =>
          obtain ⟨rfl, k, hk, rfl, hall⟩ := hrel
          have HALL := hid hall
          clear hall
          by_cases hlt : k < own.length
          · obtain ⟨b, o, rfl, hbw, _⟩ := HII.out.r1.at (by rw [opCells_len]; omega)
            obtain ⟨o1, o2⟩ := op_cells HII.out.r1 k hlt
            have hkI : (k : Int) < own.length := by omega
            have HNX := hid (fun (h : opOk own[k]) => (fun j (hj : j < own.length) (hjk : j < k + 1) => if e : j = k then by subst e; exact h else HALL.out j hj (by omega) : ∀ j (hj : j < own.length), j < k + 1 → opOk own[j]))
            have HBD : Hid (¬ opOk own[k] → newE (r : Int) own th = 240) := fun h => by rw [HE.out, if_pos (fun h2 => h (h2 _ (List.getElem_mem hlt)))]
            rcases hx : own[k] with ⟨x1, x2⟩
            rw [hx] at o1 o2 HNX HBD
            clear hx
            dsimp only at o1 o2
            by_cases k1 : x1 = 1
            · subst k1
              have HN := hid (HNX.out ⟨.inl rfl, fun h => by cases h⟩)
              clear HNX HBD
              go_wp2
              go_roundw
              case rel => exact ⟨trivial, k + 1, by omega, by go_num, HN.out⟩
              case measure => simp [intOf]; omega
            · by_cases k2 : x1 = 2
              · subst k2
                by_cases k3 : x2 = 0
                · subst k3
                  have HN := hid (HNX.out ⟨.inr rfl, fun _ => rfl⟩)
                  clear HNX HBD
                  go_wp2
                  go_roundw
                  case rel => exact ⟨trivial, k + 1, by omega, by go_num, HN.out⟩
                  case measure => simp [intOf]; omega
                · have k3' : (x2 != 0) = true := by simpa using k3
                  have HB := hid (HBD.out (fun h => k3 (h.2 rfl)))
                  clear HNX k3 HBD
                  go_wp2
                  go_ret2
                  exact RNewPost.bad HB.out (by decide) rfl (Below.refl _ _)
              · have q1 : (x1 != 1) = true := by simpa using k1
                have q2 : (x1 != 2) = true := by simpa using k2
                have q3 : (x1 == 2) = false := by simpa using k2
                have HB := hid (HBD.out (fun h => by rcases h.1 with h | h; exact k1 h; exact k2 h))
                clear HNX k1 k2 HBD
                go_wp2
                go_ret2
                exact RNewPost.bad HB.out (by decide) rfl (Below.refl _ _)
          · have hE0 : newE (r : Int) own th = 0 := by
              rw [HE.out, if_neg]
              intro h
              exact h (fun o ho => by
                obtain ⟨j, hj, rfl⟩ := List.mem_iff_getElem.1 ho
                exact HALL.out j hj (by omega))
            have HE0 := hid hE0
            obtain rfl : k = own.length := by omega
            clear hE0 HE HALL hlt hk
            have hmk := HMK.out
            have HR0 : Hid (RNI n0 wr (((wr.alloc (.cells (Array.replicate r (i64 0)) 2)).alloc (.cells #[.slice p1 own.length c1] 25)).alloc (.cells #[.int .i64 r, .int .i64 0, .int .i64 0, .slice (some ⟨wr.heap.size, 0, none⟩) r r, .slice (some ⟨wr.heap.size + 1, 0, none⟩) 1 1, .slice none 0 0, .slice none 0 0, .int .i64 0] 78)) r own th 0 (.slice (some ⟨wr.heap.size + 1, 0, none⟩) 1 1) (fun _ => .slice p1 own.length c1)) := by
              refine ⟨heap_alloc_at _ _ _ (by simp), ?_, ?_, ?_, HN0.out, Below.allocS (Below.allocS (Below.allocS (Below.refl _ wr) _) _) _⟩
              · refine (heap_alloc_miss _ _ _ (by simp only [World.size_alloc]; omega)).trans ((heap_alloc_miss _ _ _ (by simp only [World.size_alloc]; omega)).trans ((heap_alloc_at _ _ _ rfl).trans ?_))
                rw [← repl_arr]
              · exact ⟨rfl, .inr ⟨wr.heap.size + 1, 1, _, rfl, by omega, (heap_alloc_miss _ _ _ (by simp)).trans (heap_alloc_at _ _ _ (by simp)), Nat.le_refl _, by decide, rfl, rfl⟩⟩
              · intro i hi
                obtain rfl : i = 0 := by omega
                refine ⟨p1, c1, rfl, ?_, fun a ha hne => .inl (HP1.out a ha hne)⟩
                exact ((HII.out.r1.alloc _).alloc _).alloc _
            go_wp2
            generalize (((wr.alloc (.cells (Array.replicate r (i64 0)) 2)).alloc (.cells #[.slice p1 own.length c1] 25)).alloc (.cells #[.int .i64 r, .int .i64 0, .int .i64 0, .slice (some ⟨wr.heap.size, 0, none⟩) r r, .slice (some ⟨wr.heap.size + 1, 0, none⟩) 1 1, .slice none 0 0, .slice none 0 0, .int .i64 0] 78)) = wa at *
            clear hmk HMK
            obtain ⟨w0, hw0⟩ : ∃ w0 : World, w0 = wr := ⟨_, rfl⟩
            rw [← hw0] at HR0 HII HN0 ⊢
            have HW0 := hid hw0
            clear hw0
            have hsumT := sum_takes th HNEG.out
            have HST := hid hsumT
            clear hsumT
            go_loopw [12] (fun i W => ∃ (k : Nat) (vops : Value) (ov : Nat → Value), k ≤ th.length ∧ i = .int .i64 k ∧ RNI n0 w0 W r own th k vops ov) (fun i _ => th.length - (intOf i).toNat)
            case atStart => exact ⟨0, _, _, Nat.zero_le _, rfl, HR0.out⟩
            case round =>
              clear HR0
              obtain ⟨k, vops, ov, hk, rfl, hR⟩ := hrel
              have HRR := hid hR
              clear hR
              by_cases hlt : k < th.length
              · obtain ⟨b, o, rfl, hbw, hcell⟩ := HII.out.r2.at (by simp; omega)
                have hck := hcell k (by simpa using hlt)
                simp only [List.getElem_map] at hck
                have hkI : (k : Int) < th.length := by omega
                have hx0 := HNEG.out _ (List.getElem_mem hlt)
                have hx1 : th[k] ≤ 4096 := by
                  have a1 := HST.out (k + 1)
                  have a2 := sum_take th k hlt
                  have a3 := HST.out k
                  omega
                have HOP : Hid (opsAt own th (k + 1) = List.replicate th[k].toNat (3, 0)) := by
                  show opsAt own th (k + 1) = _
                  unfold opsAt
                  rw [if_neg (by omega), Nat.add_sub_cancel, List.getD_eq_getElem?_getD, List.getElem?_eq_getElem hlt]; rfl
                clear hcell
                generalize th[k] = x at *
                obtain ⟨n, rfl⟩ : ∃ n : Nat, x = n := ⟨x.toNat, by omega⟩
                rw [Int.toNat_natCast] at HOP
                have hnI : (n : Int) ≤ 4096 := hx1
                have HTH : Hid (∀ W, Below w0.heap.size w0 W → W.cell? ⟨b, o + k, none⟩ = some (.int .i64 n)) := fun W hW => (hW.cell (p := ⟨b, o + k, none⟩) hbw).trans hck
                clear hck
                go_wp2
                obtain ⟨wo, rfl⟩ : ∃ wo : World, wo = wr := ⟨_, rfl⟩
                go_loopw [13, 14] (fun v i W => ∃ j : Nat, j ≤ n ∧ i = .int .i64 j ∧ W.ownsRow wo.heap.size 27 2 v j (opCells (List.replicate j ((3 : Int), (0 : Int)))) ∧ Below wo.heap.size wo W) (fun _ i _ => n - (intOf i).toNat)
                case atStart => exact ⟨0, Nat.zero_le _, rfl, World.ownsRow_nil _ _ _ _, Below.refl _ _⟩
                case round =>
                  obtain ⟨j, hj, rfl, hown, hb⟩ := hrel
                  have HOWN := hid hown
                  have HB := hid hb
                  have hsz := hb.size
                  have g1 := HTH.out _ (HRR.out.b.trans (hb.mono HRR.out.b.size))
                  obtain ⟨lp, lc, rfl, _, _, hlr, _, _⟩ := own_row hown
                  have HLR := hid hlr
                  have HLN := hid (own_nilcapA hown)
                  clear hown hb hlr
                  by_cases hlt2 : j < n
                  · have hjI : (j : Int) < n := by omega
                    go_wp2_with ((with_reducible show wpList _ _ _ (⟨some 109, _, _, _, _, _⟩ :: _) _ _); go_loud (refine wpList_app E25 rfl _ _ rfl wo.heap.size _ _ _ rfl (HOWN.out.alloc _) _ 1 1 [i64 3, i64 0] rfl rfl (by simp) (row_new _ _ _) (by simp [Value.oneCell']) (by unfold maxLen; omega) (by omega) (by simp; omega) ?_); intro v5 w5 ho5 hg5 hs5; have HO5 := hid ho5; have HB5 := hid ((HB.out.alloc hsz _).grown hg5 (by simp; omega) (own_ge HOWN.out)); clear ho5 hg5 hs5)
                    go_roundw
                    case rel =>
                      refine ⟨j + 1, by omega, by go_num, ?_, HB5.out⟩
                      have e : List.replicate (j + 1) ((3 : Int), (0 : Int)) = List.replicate j (3, 0) ++ [(3, 0)] := by rw [List.replicate_succ']
                      rw [e, opCells_app]; exact HO5.out
                    case measure => simp [intOf]; omega
                  · obtain rfl : j = n := by omega
                    have HRB := hid (HRR.out.below HB.out)
                    obtain ⟨op, oc, hvo, hoc1, _, hor, _, _⟩ := own_row HRB.out.oo
                    have HVO := hid hvo
                    have HOO := hid HRB.out.oo
                    rw [hvo] at HOO
                    have r4 : wr.cell? ⟨w0.heap.size + 1 + 1, 4, none⟩ = some (.slice op (k + 1) oc) := by rw [← hvo]; exact cell_of_row wr _ 4 _ _ _ HRB.out.rr
                    have hrlt := (Array.getElem?_eq_some_iff.1 HRB.out.rr).1
                    have HAF : Hid (∀ (w4 : World), (wr.alloc (.cells #[.slice lp j lc] 25)).grownBy w4 (Value.slice op (k + 1) oc).ownBlock → Only [(Value.slice op (k + 1) oc).ownBlock] wr w4 ∧ w4.cell? ⟨w0.heap.size + 1 + 1, 4, none⟩ = some (.slice op (k + 1) oc) ∧ w4.frozen? ⟨w0.heap.size + 1 + 1, 4, none⟩ = false) := fun w4 hg => by
                      have o1 : Only [(Value.slice op (k + 1) oc).ownBlock] wr w4 := ((((Only.refl wr).alloc (.cells #[.slice lp j lc] 25)).trans (Only.grown hg)).less (fun _ _ h => by simpa using h))
                      have kb : w4.heap[w0.heap.size + 1 + 1]? = wr.heap[w0.heap.size + 1 + 1]? := o1.block _ hrlt (by
                        simp only [List.mem_singleton]
                        intro e
                        exact own_ne HOO.out HRB.out.rr (by decide) _ e.symm rfl)
                      exact ⟨o1, (World.cell?_of_block (a := ⟨w0.heap.size + 1 + 1, 4, none⟩) kb).trans (by rw [← HVO.out]; exact cell_of_row wr _ 4 _ _ _ HRB.out.rr), frozen_of_row w4 _ 4 _ _ (kb.trans HRB.out.rr)⟩
                    clear hvo hor
                    have hk64 : k ≤ 63 := by omega
                    have hszw := HRB.out.b.size
                    go_wp2_with ((with_reducible show wpList _ _ _ (⟨some 117, _, _, _, _, _⟩ :: _) _ _); go_loud (refine wpList_app E74 rfl _ _ rfl w0.heap.size _ _ _ rfl (HOO.out.alloc _) _ 1 1 [.slice lp j lc] rfl rfl (by simp) (row_new _ _ _) (by simp [Value.oneCell']) (by unfold maxLen; omega) (by omega) (by simp; omega) ?_); intro v5 w5 ho5 hg5 hs5; obtain ⟨o5, a5, f5⟩ := HAF.out w5 hg5; have HO5 := hid ho5; have HON5 := hid o5; obtain ⟨op5, oc5, rfl, _, _, _, _, _⟩ := own_row ho5; clear ho5 hg5 hs5 o5)
                    go_roundw
                    case rel =>
                      refine ⟨k + 1, _, _, by omega, by go_num, HRB.out.more (by rw [HVO.out]; exact HON5.out) HO5.out ?_⟩
                      rw [HOP.out]
                      refine RWork.of_own (base := wo.heap.size) ?_ HRR.out.b.size
                      have h := HOWN.out
                      simpa using h
                    case measure => simp [intOf]; omega
              · obtain rfl : k = th.length := by omega
                clear hlt hk
                obtain ⟨op, oc, hvo, hoc1, _, hor, _, _⟩ := own_row HRR.out.oo
                obtain ⟨n, hn⟩ : ∃ n, n = th.length + 1 := ⟨_, rfl⟩
                rw [← hn] at hvo
                subst hvo
                have r4 : wr.cell? ⟨w0.heap.size + 1 + 1, 4, none⟩ = some (.slice op n oc) := cell_of_row wr _ 4 _ _ _ HRR.out.rr
                have r5 : wr.cell? ⟨w0.heap.size + 1 + 1, 5, none⟩ = some (.slice none 0 0) := cell_of_row wr _ 5 _ _ _ HRR.out.rr
                have r6 : wr.cell? ⟨w0.heap.size + 1 + 1, 6, none⟩ = some (.slice none 0 0) := cell_of_row wr _ 6 _ _ _ HRR.out.rr
                have f5 := frozen_of_row wr _ 5 _ _ HRR.out.rr
                have f6 := frozen_of_row wr _ 6 _ _ HRR.out.rr
                have hrlt := (Array.getElem?_eq_some_iff.1 HRR.out.rr).1
                have hrlt2 : w0.heap.size + 1 + 1 < wr.heap.size + 1 := by omega
                have hmk1 := fun w => mk75 w n (hd0 own) rfl (by omega)
                have hmk2 := fun w => mk76 w n (by omega)
                have HNN := hid hn
                have hn64 : (n : Int) ≤ 64 := by omega
                clear hn
                go_wp2
                go_ret2
                have hfin := rnew_is HRR.out HNN.out
                rw [← HW0.out.trans HWO.out]
                refine .inl ⟨HE0.out, ⟨n0, w0.heap.size, w0.heap.size + 1 + 1, w0.heap.size, wr.heap.size, wr.heap.size + 1, r, oc, op, ov⟩, fun _ => .slice none 0 0, rfl, rfl, rfl, ?_, hfin.2⟩
                rw [Int.toNat_natCast]
                exact hfin.1
end Go.Proofs.Ytpgdpddmgljpmaa
