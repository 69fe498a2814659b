/-
  The document's table as it lies.
  The document's table: Workers, Done, row, Get, History.
  The document's table: Waits.
  The document's table: what one store more makes of it.
-/
import Derived.Test.YtabkmdhkfbcldaaJI5
namespace Go.Proofs.Ytabkmdhkfbcldaa
open Go.RowKit

def Hn.cells (h : Hn) : List Value := [.int .i64 (h.at_ : Nat), .bool h.found, .int .i64 (h.call : Nat)]
/-- Where the parts of the document's table lie. -/
structure RB where
  bl : Nat
  bn : Nat
  bh : Nat
  vr : Value
  vc : Value
  wp : Option Addr
  wc : Nat
  zs : List AkR
def headR (K : Wk) (S : Sh) (B : RB) (st : Nat) : Obj := .cells #[.int .i64 K.shards, .slice (some ⟨B.bl, 0, none⟩) K.shards K.shards, B.vr, .slice B.wp K.work.length B.wc, .slice (some ⟨B.bn, 0, none⟩) K.work.length K.work.length, .slice (some ⟨B.bh, 0, none⟩) K.work.length K.work.length, B.vc, .int .i64 (st : Nat)] 84 (0, 0)
def intV (n : Int) : Value := .int .i64 n
def locksO (l : List Int) : Obj := .cells (l.map intV).toArray 3 (0, 0)
def nextsO (l : List Nat) : Obj := .cells (l.map natV).toArray 3 (0, 0)
def handsO (l : List Hn) : Obj := .cells (l.flatMap Hn.cells).toArray 93 (0, 0)
/-- The rows of work that are not empty lie below. -/
def AsksLt (base : Nat) (wp : Option Addr) (zs : List AkR) : Prop := (∀ q, wp = some q → zs ≠ [] → q.block < base) ∧ ∀ z ∈ zs, z.2.2 ≠ [] → ∀ q, z.1 = some q → q.block < base
theorem AskIs.lts {w : World} {wp : Option Addr} {wc : Nat} {zs : List AkR} (h : AskIs w wp wc zs) : AsksLt w.heap.size wp zs := by
  refine ⟨fun q hq hne => ?_, fun z hz hne q hq => ?_⟩
  · obtain ⟨b, o, e, hb, -⟩ := h.row.at (by cases zs with | nil => exact absurd rfl hne | cons a l => simp)
    rw [hq] at e; injection e with e; subst e; exact hb
  · obtain ⟨b, o, e, hb, -⟩ := ((h.each z hz).2.1).at (by
      have := flat_len Ak.cells 3 (fun _ => rfl) z.2.2
      cases hl : z.2.2 with
      | nil => exact absurd hl hne
      | cons a l => rw [hl] at this; rw [this]; simp)
    rw [hq] at e; injection e with e; subst e; exact hb
structure RIs (W : World) (base r : Nat) (K : Wk) (S : Sh) (B : RB) : Prop where
  head : W.heap[r]? = some (headR K S B S.steps)
  locks : W.heap[B.bl]? = some (locksO S.locks)
  nexts : W.heap[B.bn]? = some (nextsO S.next)
  hands : W.heap[B.bh]? = some (handsO S.hands)
  rows : W.ownsRow base 55 3 B.vr S.rows.length (S.rows.flatMap Rw.cells)
  calls : W.ownsRow base 46 8 B.vc S.calls.length (S.calls.flatMap Cl.cells)
  work : AskIs W B.wp B.wc B.zs
  wk : K.work = lists B.zs
  ge : base ≤ r ∧ base ≤ B.bl ∧ base ≤ B.bn ∧ base ≤ B.bh
  ne : B.bl ≠ B.bn
  wlt : AsksLt base B.wp B.zs
  nxl : S.next.length = K.work.length
  hnl : S.hands.length = K.work.length
  lkl : S.locks.length = K.shards
/-- What a step may touch. -/
def RB.fp (B : RB) (r b : Nat) : Prop := b = r ∨ b = B.bl ∨ b = B.bn ∨ b = B.bh ∨ B.vr.ownBlock = some b ∨ B.vc.ownBlock = some b
section
variable {W W' : World} {base r : Nat} {K : Wk} {S : Sh} {B : RB}
theorem RIs.below (h : RIs W base r K S B) (hb : Below W.heap.size W W') : RIs W' base r K S B :=
  ⟨(hb.block _ (Array.getElem?_eq_some_iff.1 h.head).1).trans h.head, (hb.block _ (Array.getElem?_eq_some_iff.1 h.locks).1).trans h.locks, (hb.block _ (Array.getElem?_eq_some_iff.1 h.nexts).1).trans h.nexts, (hb.block _ (Array.getElem?_eq_some_iff.1 h.hands).1).trans h.hands,
   own_below h.rows hb, own_below h.calls hb, h.work.below hb, h.wk, h.ge, h.ne, h.wlt, h.nxl, h.hnl, h.lkl⟩
theorem RIs.lt (h : RIs W base r K S B) : r < W.heap.size ∧ B.bl < W.heap.size ∧ B.bn < W.heap.size ∧ B.bh < W.heap.size :=
  ⟨(Array.getElem?_eq_some_iff.1 h.head).1, (Array.getElem?_eq_some_iff.1 h.locks).1, (Array.getElem?_eq_some_iff.1 h.nexts).1, (Array.getElem?_eq_some_iff.1 h.hands).1⟩
theorem RIs.fp_in (h : RIs W base r K S B) {b : Nat} (hb : B.fp r b) : base ≤ b ∧ b < W.heap.size := by
  obtain ⟨l0, l1, l2, l3⟩ := h.lt
  obtain ⟨g0, g1, g2, g3⟩ := h.ge
  rcases hb with rfl | rfl | rfl | rfl | hb | hb
  · exact ⟨g0, l0⟩
  · exact ⟨g1, l1⟩
  · exact ⟨g2, l2⟩
  · exact ⟨g3, l3⟩
  · exact ⟨own_ge h.rows _ hb, own_lt h.rows _ hb⟩
  · exact ⟨own_ge h.calls _ hb, own_lt h.calls _ hb⟩
theorem RIs.cells (h : RIs W base r K S B) : W.cell? ⟨r, 0, none⟩ = some (.int .i64 K.shards) ∧ W.cell? ⟨r, 1, none⟩ = some (.slice (some ⟨B.bl, 0, none⟩) K.shards K.shards) ∧ W.cell? ⟨r, 2, none⟩ = some B.vr ∧ W.cell? ⟨r, 3, none⟩ = some (.slice B.wp K.work.length B.wc) ∧ W.cell? ⟨r, 4, none⟩ = some (.slice (some ⟨B.bn, 0, none⟩) K.work.length K.work.length) ∧ W.cell? ⟨r, 5, none⟩ = some (.slice (some ⟨B.bh, 0, none⟩) K.work.length K.work.length) ∧ W.cell? ⟨r, 6, none⟩ = some B.vc ∧ W.cell? ⟨r, 7, none⟩ = some (.int .i64 (S.steps : Nat)) :=
  ⟨cell_of_row _ _ 0 _ _ _ h.head, cell_of_row _ _ 1 _ _ _ h.head, cell_of_row _ _ 2 _ _ _ h.head, cell_of_row _ _ 3 _ _ _ h.head, cell_of_row _ _ 4 _ _ _ h.head, cell_of_row _ _ 5 _ _ _ h.head, cell_of_row _ _ 6 _ _ _ h.head, cell_of_row _ _ 7 _ _ _ h.head⟩
theorem RIs.lockAt (h : RIs W base r K S B) {i : Nat} (hi : i < K.shards) : W.cell? ⟨B.bl, i, none⟩ = some (.int .i64 (S.locks.getD i (-1))) := by
  have hl : i < S.locks.length := by rw [h.lkl]; exact hi
  rw [cell_of_row _ _ i _ _ _ h.locks]
  simp [hl, intV, List.getD_eq_getElem?_getD]
theorem RIs.nextAt (h : RIs W base r K S B) {k : Nat} (hk : k < K.work.length) : W.cell? ⟨B.bn, k, none⟩ = some (.int .i64 (S.next.getD k 0 : Nat)) := by
  have hl : k < S.next.length := by rw [h.nxl]; exact hk
  rw [cell_of_row _ _ k _ _ _ h.nexts]
  simp [hl, natV, List.getD_eq_getElem?_getD]
theorem RIs.handAt (h : RIs W base r K S B) {k : Nat} (hk : k < K.work.length) : W.cell? ⟨B.bh, k * 3, none⟩ = some (.int .i64 ((S.hand k).at_ : Nat)) ∧ W.cell? ⟨B.bh, k * 3 + 1, none⟩ = some (.bool (S.hand k).found) ∧ W.cell? ⟨B.bh, k * 3 + 2, none⟩ = some (.int .i64 ((S.hand k).call : Nat)) := by
  have hl : k < S.hands.length := by rw [h.hnl]; exact hk
  have hlen := flat_len Hn.cells 3 (fun _ => rfl) S.hands
  have e : S.hand k = S.hands[k] := by unfold Sh.hand; simp [List.getD_eq_getElem?_getD, hl]
  have key : ∀ j (hj : j < 3), W.cell? ⟨B.bh, k * 3 + j, none⟩ = (Hn.cells S.hands[k])[j]? := fun j hj => by
    rw [cell_of_row _ _ (k * 3 + j) _ _ _ h.hands, show k * 3 + j = 3 * k + j by omega]
    rw [List.getElem?_toArray]
    exact flat_get Hn.cells 3 (fun _ => rfl) S.hands k hl j hj
  rw [e]
  exact ⟨key 0 (by omega), key 1 (by omega), key 2 (by omega)⟩
theorem RIs.workAt (h : RIs W base r K S B) {k : Nat} (hk : k < K.work.length) : ∃ b o, B.wp = some ⟨b, o, none⟩ ∧ b < W.heap.size ∧ ∃ qa ca, W.cell? ⟨b, o + k, none⟩ = some (.slice qa (K.own k).length ca) ∧ Row W qa ((K.own k).flatMap Ak.cells) := by
  have hz : k < B.zs.length := by rw [h.wk] at hk; simpa [lists] using hk
  obtain ⟨b, o, e, hbl, hc⟩ := akS_at h.work (by omega)
  refine ⟨b, o, e, hbl, B.zs[k].1, B.zs[k].2.1, ?_, ?_⟩
  · rw [hc k hz]
    unfold akS Wk.own
    rw [h.wk]
    simp [lists, List.getD_eq_getElem?_getD, hz]
  · have := (h.work.each _ (List.getElem_mem hz)).2.1
    unfold Wk.own
    rw [h.wk]
    simpa [lists, List.getD_eq_getElem?_getD, hz] using this
end
end Go.Proofs.Ytabkmdhkfbcldaa
namespace Go.Proofs.Ytabkmdhkfbcldaa
open Go.RowKit
variable {W W' : World} {base r : Nat} {K : Wk} {S : Sh} {B : RB}

theorem rworkers (h : RIs W base r K S B) : Calls Try.prog 16 #[.pointer (some ⟨r, 0, none⟩)] W fun e w' => e = .returned (.int .i64 (K.work.length : Nat)) ∧ W = w' := by
  obtain ⟨c0, c1, c2, c3, c4, c5, c6, c7⟩ := h.cells
  clear h
  generalize K.work.length = n at *
  go_enter Try.func16, Try.ntmps16
  go_wp2
  go_ret
  exact ⟨rfl, rfl⟩
theorem rhist (h : RIs W base r K S B) : Calls Try.prog 28 #[.pointer (some ⟨r, 0, none⟩)] W fun e w' => e = .returned B.vc ∧ W = w' := by
  obtain ⟨c0, c1, c2, c3, c4, c5, c6, c7⟩ := h.cells
  clear h
  go_enter Try.func28, Try.ntmps28
  go_wp2
  go_ret
  exact ⟨rfl, rfl⟩
set_option maxHeartbeats 1000000 in
theorem rdone (h : RIs W base r K S B) (hsz : ∀ k, (K.own k).length ≤ 1000000) (w : Int) : Calls Try.prog 24 #[.pointer (some ⟨r, 0, none⟩), .int .i64 w] W fun e w' => e = .returned (.bool (S.doneI K w)) ∧ ∃ q, w' = W.drewN q := by
  obtain ⟨c0, c1, c2, c3, c4, c5, c6, c7⟩ := h.cells
  by_cases h0 : w < 0
  · have hv : S.doneI K w = true := by unfold Sh.doneI; simp [h0]
    rw [hv]
    clear hv h
    go_enter Try.func24, Try.ntmps24
    go_upto_region 1 with (fail)
    go_quiet (fail)
    go_wp2_with fail
    go_ret
    exact ⟨rfl, _, rfl⟩
  · by_cases h1 : (K.work.length : Int) ≤ w
    · have hv : S.doneI K w = true := by unfold Sh.doneI; simp [h1]
      rw [hv]
      clear hv h
      generalize K.work.length = n at *
      go_enter Try.func24, Try.ntmps24
      go_upto_region 1 with (fail)
      go_quiet (fail)
      go_wp2_with fail
      go_ret
      exact ⟨rfl, _, rfl⟩
    · obtain ⟨k, rfl⟩ : ∃ k : Nat, w = k := ⟨w.toNat, by omega⟩
      have hk : k < K.work.length := by omega
      have HV : Hid (S.doneI K (k : Int) = decide (S.next.getD k 0 = (K.own k).length)) := by
        unfold Hid Sh.doneI Sh.doneN
        rw [Int.toNat_natCast]
        have a1 : decide ((k : Int) < 0) = false := decide_eq_false (by omega)
        have a2 : decide ((K.work.length : Int) ≤ k) = false := decide_eq_false (by omega)
        have a3 : decide (K.work.length ≤ k) = false := decide_eq_false (by omega)
        rw [a1, a2, a3]; rfl
      obtain ⟨b, o, hv, hbl, qa, ca, d0, -⟩ := h.workAt hk
      have d1 := h.nextAt hk
      have hol := hsz k
      rw [hv] at c3
      rw [HV.out]
      clear hv h HV hsz
      generalize K.work.length = n at *
      generalize S.next.getD k 0 = x at *
      generalize (K.own k).length = y at *
      have hkI : (k : Int) < n := by omega
      have HXY : Hid (((x : Int) == (y : Int)) = decide (x = y)) := by
        unfold Hid
        by_cases e : x = y
        · simp [e]
        · simp [e]; omega
      go_enter Try.func24, Try.ntmps24
      go_upto_region 1 with (fail)
      go_quiet (fail)
      go_wp2_with fail
      go_ret
      exact ⟨ret_bool (by first | exact HXY.out | simp_all), _, rfl⟩
/-- The number of a name's row. -/
def rixN (l : List Rw) (k : ByteArray) : Nat := l.findIdx (fun r => decide (r.key = k))
def rixI (l : List Rw) (k : ByteArray) : Int := if rixN l k < l.length then rixN l k else -1
theorem row_fields {w : World} {b o : Nat} {ys : List Rw} (h : Row w (some ⟨b, o, none⟩) (ys.flatMap Rw.cells)) (k : Nat) (hk : k < ys.length) :
    w.cell? ⟨b, o + k * 3, none⟩ = some (.string ys[k].key) ∧ w.cell? ⟨b, o + k * 3 + 1, none⟩ = some (.int .i64 ys[k].val) ∧ w.cell? ⟨b, o + k * 3 + 2, none⟩ = some (.bool ys[k].told) := by
  have hlen := flat_len Rw.cells 3 (fun _ => rfl) ys
  have key : ∀ j, j < 3 → w.cell? ⟨b, o + k * 3 + j, none⟩ = (ys[k].cells)[j]? := fun j hj => by
    have hlt : 3 * k + j < (ys.flatMap Rw.cells).length := by rw [hlen]; omega
    rw [show o + k * 3 + j = o + (3 * k + j) by omega, h.cell (3 * k + j) hlt, ← List.getElem?_eq_getElem hlt]
    exact flat_get Rw.cells 3 (fun _ => rfl) ys k hk j hj
  exact ⟨key 0 (by omega), key 1 (by omega), key 2 (by omega)⟩
set_option maxHeartbeats 1000000 in
theorem rrow (h : RIs W base r K S B) (hl : S.rows.length ≤ 1000000) (key : ByteArray) : Calls Try.prog 43 #[.pointer (some ⟨r, 0, none⟩), .string key] W fun e w' => e = .returned (.int .i64 (rixI S.rows key)) ∧ W = w' := by
  obtain ⟨c0, c1, c2, c3, c4, c5, c6, c7⟩ := h.cells
  obtain ⟨p, c, hv, hrow⟩ := own_shape h.rows
  rw [hv] at c2
  clear hv h c0 c1 c3 c4 c5 c6 c7
  generalize S.rows = l at *
  have HROW := hid hrow
  go_enter Try.func43, Try.ntmps43
  go_wp2_with fail
  go_loopw [5] (fun i wr => ∃ k : Nat, k ≤ l.length ∧ i = .int .i64 k ∧ wr = W ∧ k ≤ rixN l key) (fun i _ => l.length - (intOf i).toNat)
  case atStart => exact ⟨0, by omega, rfl, rfl, Nat.zero_le _⟩
  case round =>
    obtain ⟨k, hk, rfl, rfl, hkx⟩ := hrel
    by_cases hlt : k < l.length
    · have hltI : (k : Int) < l.length := by omega
      obtain ⟨b, o, rfl, hbl, -⟩ := hrow.at (by have := flat_len Rw.cells 3 (fun _ => rfl) l; omega)
      obtain ⟨x0, -, -⟩ := row_fields hrow k hlt
      have HEQ : Hid (l[k].key = key → rixI l key = k) := fun e => by
        have h1 : rixN l key ≤ k := by
          refine Decidable.byContradiction fun hn => ?_
          have := List.not_of_lt_findIdx (p := fun r : Rw => decide (r.key = key)) (xs := l) (i := k) (by unfold rixN at hn; omega)
          simp [e] at this
        have h2 : rixN l key = k := by omega
        unfold rixI
        rw [h2, if_pos hlt]
      have HNE : Hid (l[k].key ≠ key → k + 1 ≤ rixN l key) := fun e => by
        refine Decidable.byContradiction fun hn => e ?_
        have h2 : rixN l key = k := by omega
        have h3 : l.findIdx (fun r : Rw => decide (r.key = key)) < l.length := by unfold rixN at h2; omega
        have h4 := List.findIdx_getElem (w := h3)
        have h5 : l.findIdx (fun r : Rw => decide (r.key = key)) = k := h2
        simp only [h5] at h4
        simpa using h4
      generalize l[k].key = ky at *
      clear hrow hkx
      by_cases e : ky = key
      · have hE := HEQ.out e
        have HE := hid hE
        clear hE
        subst e
        go_wp2_with fail
        go_ret
        exact ⟨ret_int HE.out.symm, by trivial⟩
      · have hne := strNe e
        go_wp2_with fail
        exact ⟨⟨k + 1, by omega, by go_num, by trivial, HNE.out e⟩, by simp [intOf]; omega⟩
    · have hke : k = l.length := by omega
      have HRX : Hid (rixI l key = -1) := by unfold Hid rixI; rw [if_neg (by omega)]
      subst hke
      clear hrow hkx
      go_wp2_with fail
      go_ret
      exact ⟨ret_int HRX.out.symm, by trivial⟩
theorem rowAt_rix (l : List Rw) (k : ByteArray) : rowAt l k = l[rixN l k]? := by
  unfold rowAt rixN
  induction l with
  | nil => rfl
  | cons a l ih =>
    by_cases e : a.key = k
    · simp [e, List.findIdx_cons]
    · simp [e, List.findIdx_cons, ih]
theorem get_rix (S : Sh) (k : ByteArray) (h : rixN S.rows k < S.rows.length) : S.get k = some (S.rows[rixN S.rows k]).val ∧ S.toldN k = (S.rows[rixN S.rows k]).told := by
  unfold Sh.get Sh.toldN
  rw [rowAt_rix, List.getElem?_eq_getElem h]
  exact ⟨rfl, rfl⟩
theorem get_rixN (S : Sh) (k : ByteArray) (h : ¬ rixN S.rows k < S.rows.length) : S.get k = none ∧ S.toldN k = false := by
  unfold Sh.get Sh.toldN
  rw [rowAt_rix, List.getElem?_eq_none (by omega)]
  exact ⟨rfl, rfl⟩
set_option maxHeartbeats 1000000 in
theorem rget (h : RIs W base r K S B) (hl : S.rows.length ≤ 1000000) (key : ByteArray) : Calls Try.prog 23 #[.pointer (some ⟨r, 0, none⟩), .string key] W fun e w' => e = .returned (.tuple #[.int .i64 ((S.get key).getD 0), .bool (S.get key).isSome]) ∧ W = w' := by
  have HR := hid (rrow h hl key)
  obtain ⟨c0, c1, c2, c3, c4, c5, c6, c7⟩ := h.cells
  obtain ⟨p, c, hv, hrow⟩ := own_shape h.rows
  rw [hv] at c2
  clear hv h c0 c1 c3 c4 c5 c6 c7
  by_cases hx : rixN S.rows key < S.rows.length
  · rw [(get_rix S key hx).1]
    have hxi : rixI S.rows key = rixN S.rows key := by unfold rixI; rw [if_pos hx]
    rw [hxi] at HR
    obtain ⟨b, o, rfl, hbl, -⟩ := hrow.at (by have := flat_len Rw.cells 3 (fun _ => rfl) S.rows; omega)
    obtain ⟨-, x1, -⟩ := row_fields hrow _ hx
    have hxI : (rixN S.rows key : Int) < S.rows.length := by omega
    generalize (S.rows[rixN S.rows key]).val = v at *
    generalize rixN S.rows key = x at *
    generalize S.rows.length = n at *
    clear hrow hxi
    go_enter Try.func23, Try.ntmps23
    go_wp2_with (go_at_call 43; (with_reducible refine HR.out.mono ?_); rintro e w1 ⟨rfl, hw1⟩; subst hw1)
    go_ret2
    exact ⟨rfl, rfl⟩
  · rw [(get_rixN S key hx).1]
    have hxi : rixI S.rows key = -1 := by unfold rixI; rw [if_neg hx]
    rw [hxi] at HR
    clear hrow hxi
    go_enter Try.func23, Try.ntmps23
    go_wp2_with (go_at_call 43; (with_reducible refine HR.out.mono ?_); rintro e w1 ⟨rfl, hw1⟩; subst hw1)
    go_ret2
    exact ⟨rfl, rfl⟩
end Go.Proofs.Ytabkmdhkfbcldaa
namespace Go.Proofs.Ytabkmdhkfbcldaa
open Go.RowKit
variable {W W' : World} {base r : Nat} {K : Wk} {S : Sh} {B : RB}

/-- The call that a worker has in hand, or would begin, as it lies. -/
theorem RIs.askAt (h : RIs W base r K S B) {k : Nat} (hk : k < K.work.length) (hn : S.next.getD k 0 < (K.own k).length) : ∃ b o qb qo ca, B.wp = some ⟨b, o, none⟩ ∧ W.cell? ⟨b, o + k, none⟩ = some (.slice (some ⟨qb, qo, none⟩) (K.own k).length ca) ∧ b < W.heap.size ∧ qb < W.heap.size ∧
    W.cell? ⟨qb, qo + S.next.getD k 0 * 3, none⟩ = some (.int .i64 (S.ask K k).kind) ∧ W.cell? ⟨qb, qo + S.next.getD k 0 * 3 + 1, none⟩ = some (.string (S.ask K k).key) ∧ W.cell? ⟨qb, qo + S.next.getD k 0 * 3 + 2, none⟩ = some (.int .i64 (S.ask K k).value) := by
  obtain ⟨b, o, hv, hbl, qa, ca, d0, hr⟩ := h.workAt hk
  obtain ⟨qb, qo, rfl, hqb, -⟩ := hr.at (by have := flat_len Ak.cells 3 (fun _ => rfl) (K.own k); omega)
  have e : S.ask K k = (K.own k)[S.next.getD k 0] := by unfold Sh.ask; rw [List.getD_eq_getElem?_getD, List.getElem?_eq_getElem hn]; rfl
  obtain ⟨r0, r1, r2⟩ := ak_atR hr _ hn
  rw [e]
  exact ⟨b, o, qb, qo, ca, hv, d0, hbl, hqb, r0, r1, r2⟩
set_option maxRecDepth 20000 in
set_option maxHeartbeats 2000000 in
theorem rwaits_done (h : RIs W base r K S B) (hsz : ∀ k, (K.own k).length ≤ 1000000) (w : Int) (hd : S.doneI K w = true) : Calls Try.prog 25 #[.pointer (some ⟨r, 0, none⟩), .int .i64 w] W fun e w' => e = .returned (.bool (S.waitsI K w)) ∧ Below W.heap.size W w' := by
  have HD := hid (rdone h hsz w)
  have hv : S.waitsI K w = false := by unfold Sh.waitsI; rw [hd]; rfl
  rw [hv]
  rw [hd] at HD
  clear hv hd h hsz
  go_enter Try.func25, Try.ntmps25
  go_wp2_with (go_at_call 24; (with_reducible refine HD.out.mono ?_); rintro e w1 ⟨rfl, q1, rfl⟩)
  go_ret
  exact ⟨rfl, below_drewN (Below.refl _ _) _⟩
set_option maxRecDepth 20000 in
set_option maxHeartbeats 2000000 in
theorem rwaits_not (h : RIs W base r K S B) (HK : WkOk K) (hsz : ∀ k, (K.own k).length ≤ 1000000) (hl : S.rows.length ≤ 1000000) (k : Nat) (hk : k < K.work.length) (hd : S.doneI K (k : Int) = false) (hn : S.next.getD k 0 < (K.own k).length) :
    Calls Try.prog 25 #[.pointer (some ⟨r, 0, none⟩), .int .i64 (k : Nat)] W fun e w' => e = .returned (.bool (S.waitsI K (k : Int))) ∧ Below W.heap.size W w' := by
  have HD := hid (rdone h hsz (k : Int))
  have hn0 := hn
  rw [hd] at HD
  have hdn : S.doneN K k = false := by unfold Sh.doneI at hd; simp at hd; exact hd.2
  have hv : S.waitsI K (k : Int) = match (S.hand k).at_ with
    | 0 => decide (0 ≤ S.lockOf K k) && decide (S.lockOf K k ≠ k)
    | 5 => !S.toldN (S.ask K k).key
    | _ => false := by
    unfold Sh.waitsI Sh.waitsN
    rw [hd, Int.toNat_natCast, hdn]; rfl
  rw [hv]
  obtain ⟨c0, c1, c2, c3, c4, c5, c6, c7⟩ := h.cells
  obtain ⟨b, o, qb, qo, ca, hwv, d0, hbl, hqb, e0, e1, e2⟩ := h.askAt hk hn
  have d1 := h.nextAt hk
  obtain ⟨f0, f1, f2⟩ := h.handAt hk
  have hol := hsz k
  rw [hwv] at c3
  have hkI : (k : Int) < K.work.length := by omega
  have hnI : ((S.next.getD k 0 : Nat) : Int) < (K.own k).length := by omega
  obtain ⟨l0, l1, l2, l3⟩ := h.lt
  have gg : ∀ {a : Addr} {v : Value}, a.block < W.heap.size → W.cell? a = some v → ∀ w', Below W.heap.size W w' → w'.cell? a = some v := fun ha hv w' hb => (hb.cell ha).trans hv
  have g3 := gg (a := ⟨r, 3, none⟩) l0 c3
  have g4 := gg (a := ⟨r, 4, none⟩) l0 c4
  have gd0 := gg (a := ⟨b, o + k, none⟩) hbl d0
  have gd1 := gg (a := ⟨B.bn, k, none⟩) l2 d1
  have ge0 := gg (a := ⟨qb, qo + S.next.getD k 0 * 3, none⟩) hqb e0
  have ge1 := gg (a := ⟨qb, qo + S.next.getD k 0 * 3 + 1, none⟩) hqb e1
  have ge2 := gg (a := ⟨qb, qo + S.next.getD k 0 * 3 + 2, none⟩) hqb e2
  have HH := hid h
  have HN0 := hid hn0
  clear hn0
  generalize S.next.getD k 0 = nx at c0 c1 c2 c3 c4 c5 c6 c7 d0 d1 e0 e1 e2 gd0 gd1 ge0 ge1 ge2 hn hnI
  generalize (K.own k).length = ol at c0 c1 c2 c3 c4 c5 c6 c7 d0 d1 e0 e1 e2 gd0 gd1 ge0 ge1 ge2 hn hnI hol
  generalize hak : S.ask K k = ak at *
  clear c0 c1 c2 c3 c4 c5 c6 c7 d0 d1 e0 e1 e2 f0 f1 f2 gg h hd hdn hv
  obtain ⟨x, hx⟩ : ∃ x, (S.hand k).at_ = x := ⟨_, rfl⟩
  rw [hx]
  obtain ⟨res, hres⟩ : ∃ res, res = (match x with | 0 => decide (0 ≤ S.lockOf K k) && decide (S.lockOf K k ≠ k) | 5 => !S.toldN ak.key | _ => false) := ⟨_, rfl⟩
  rw [← hres]
  have HRES := hid hres
  have HX := hid hx
  clear hres hx
  go_enter Try.func25, Try.ntmps25
  go_upto_region 3 with (go_at_call 24; (with_reducible refine HD.out.mono ?_); rintro e w1 ⟨rfl, hq1⟩; have HW1 : Hid (Below W.heap.size W w1) := (by obtain ⟨q, rfl⟩ := hq1; exact below_drewN (Below.refl _ _) q); clear hq1)
  go_cut [5] (fun v wx => AkV W ak v wx)
  case first =>
    refine wp_region_held_drew (S := fun w' => Below W.heap.size W w') (by kernel_rfl) HW1.out.drew (fun hHeld => ?_)
    refine wpAnyH_take (i := 0) (oi := { dst := some 11, op := Op.move (Operand.tmp 0), type := 34, pos := "ref.go:102", after := #[], guard := none }) (v := ?wav0) rfl (by kernel_rfl) (by kernel_rfl) (by kernel_rfl) (fun _ _ _ h => h) (Or.inl ⟨by rfl, ?wah0⟩) (by assumption) ?war0
    case wah0 => ((intro w hSw; (try dsimp only at hSw); go_simp); try with_reducible rfl)
    try simp only [Act.put, List.setIfInBounds_toArray, List.set_cons_zero, List.set_cons_succ]
    refine wpAnyH_take (i := 1) (oi := { dst := some 12, op := Op.nilCheck (Operand.tmp 11), type := 0, pos := "ref.go:102", after := #[{ on := 0, ground := Ground.data }], guard := none }) (v := ?wav1) rfl (by kernel_rfl) (by kernel_rfl) (by kernel_rfl) (fun _ _ _ h => h) (Or.inl ⟨by rfl, ?wah1⟩) (by assumption) ?war1
    case wah1 => ((intro w hSw; (try dsimp only at hSw); go_simp); try with_reducible rfl)
    try simp only [Act.put, List.setIfInBounds_toArray, List.set_cons_zero, List.set_cons_succ]
    refine wpAnyH_take (i := 2) (oi := { dst := some 13, op := Op.fieldAddr 84 (Operand.tmp 12) 3, type := 0, pos := "ref.go:102", after := #[{ on := 1, ground := Ground.data }], guard := none }) (v := ?wav2) rfl (by kernel_rfl) (by kernel_rfl) (by kernel_rfl) (fun _ _ _ h => h) (Or.inl ⟨by rfl, ?wah2⟩) (by assumption) ?war2
    case wah2 => ((intro w hSw; (try dsimp only at hSw); go_simp); try with_reducible rfl)
    try simp only [Act.put, List.setIfInBounds_toArray, List.set_cons_zero, List.set_cons_succ]
    refine wpAnyH_take (i := 3) (oi := { dst := some 14, op := Op.load 27 (Operand.tmp 13), type := 27, pos := "ref.go:102", after := #[{ on := 2, ground := Ground.data }], guard := none }) (v := ?wav3) rfl (by kernel_rfl) (by kernel_rfl) (by kernel_rfl) (fun _ _ _ h => h) (Or.inl ⟨by rfl, ?wah3⟩) (by assumption) ?war3
    case wah3 => ((intro w hSw; (try dsimp only at hSw); go_simp); try with_reducible rfl)
    try simp only [Act.put, List.setIfInBounds_toArray, List.set_cons_zero, List.set_cons_succ]
    refine wpAnyH_take (i := 4) (oi := { dst := some 15, op := Op.move (Operand.tmp 1), type := 3, pos := "ref.go:102", after := #[], guard := none }) (v := ?wav4) rfl (by kernel_rfl) (by kernel_rfl) (by kernel_rfl) (fun _ _ _ h => h) (Or.inl ⟨by rfl, ?wah4⟩) (by assumption) ?war4
    case wah4 => ((intro w hSw; (try dsimp only at hSw); go_simp); try with_reducible rfl)
    try simp only [Act.put, List.setIfInBounds_toArray, List.set_cons_zero, List.set_cons_succ]
    refine wpAnyH_take (i := 5) (oi := { dst := some 16, op := Op.indexAddr 27 (Operand.tmp 14) (Operand.tmp 15), type := 0, pos := "ref.go:102", after := #[{ on := 3, ground := Ground.data }, { on := 4, ground := Ground.data }], guard := none }) (v := ?wav5) rfl (by kernel_rfl) (by kernel_rfl) (by kernel_rfl) (fun _ _ _ h => h) (Or.inl ⟨by rfl, ?wah5⟩) (by assumption) ?war5
    case wah5 => ((intro w hSw; (try dsimp only at hSw); go_simp); try with_reducible rfl)
    try simp only [Act.put, List.setIfInBounds_toArray, List.set_cons_zero, List.set_cons_succ]
    refine wpAnyH_take (i := 6) (oi := { dst := some 17, op := Op.load 71 (Operand.tmp 16), type := 71, pos := "ref.go:102", after := #[{ on := 5, ground := Ground.data }], guard := none }) (v := ?wav6) rfl (by kernel_rfl) (by kernel_rfl) (by kernel_rfl) (fun _ _ _ h => h) (Or.inl ⟨by rfl, ?wah6⟩) (by assumption) ?war6
    case wah6 => ((intro w hSw; (try dsimp only at hSw); go_simp); try with_reducible rfl)
    try simp only [Act.put, List.setIfInBounds_toArray, List.set_cons_zero, List.set_cons_succ]
    refine wpAnyH_take (i := 7) (oi := { dst := some 18, op := Op.move (Operand.tmp 0), type := 34, pos := "ref.go:102", after := #[], guard := none }) (v := ?wav7) rfl (by kernel_rfl) (by kernel_rfl) (by kernel_rfl) (fun _ _ _ h => h) (Or.inl ⟨by rfl, ?wah7⟩) (by assumption) ?war7
    case wah7 => ((intro w hSw; (try dsimp only at hSw); go_simp); try with_reducible rfl)
    try simp only [Act.put, List.setIfInBounds_toArray, List.set_cons_zero, List.set_cons_succ]
    refine wpAnyH_take (i := 8) (oi := { dst := some 19, op := Op.nilCheck (Operand.tmp 18), type := 0, pos := "ref.go:102", after := #[{ on := 7, ground := Ground.data }], guard := none }) (v := ?wav8) rfl (by kernel_rfl) (by kernel_rfl) (by kernel_rfl) (fun _ _ _ h => h) (Or.inl ⟨by rfl, ?wah8⟩) (by assumption) ?war8
    case wah8 => ((intro w hSw; (try dsimp only at hSw); go_simp); try with_reducible rfl)
    try simp only [Act.put, List.setIfInBounds_toArray, List.set_cons_zero, List.set_cons_succ]
    refine wpAnyH_take (i := 9) (oi := { dst := some 20, op := Op.fieldAddr 84 (Operand.tmp 19) 4, type := 0, pos := "ref.go:102", after := #[{ on := 8, ground := Ground.data }], guard := none }) (v := ?wav9) rfl (by kernel_rfl) (by kernel_rfl) (by kernel_rfl) (fun _ _ _ h => h) (Or.inl ⟨by rfl, ?wah9⟩) (by assumption) ?war9
    case wah9 => ((intro w hSw; (try dsimp only at hSw); go_simp); try with_reducible rfl)
    try simp only [Act.put, List.setIfInBounds_toArray, List.set_cons_zero, List.set_cons_succ]
    refine wpAnyH_take (i := 10) (oi := { dst := some 21, op := Op.load 62 (Operand.tmp 20), type := 62, pos := "ref.go:102", after := #[{ on := 9, ground := Ground.data }], guard := none }) (v := ?wav10) rfl (by kernel_rfl) (by kernel_rfl) (by kernel_rfl) (fun _ _ _ h => h) (Or.inl ⟨by rfl, ?wah10⟩) (by assumption) ?war10
    case wah10 => ((intro w hSw; (try dsimp only at hSw); go_simp); try with_reducible rfl)
    try simp only [Act.put, List.setIfInBounds_toArray, List.set_cons_zero, List.set_cons_succ]
    refine wpAnyH_take (i := 11) (oi := { dst := some 22, op := Op.move (Operand.tmp 1), type := 3, pos := "ref.go:102", after := #[], guard := none }) (v := ?wav11) rfl (by kernel_rfl) (by kernel_rfl) (by kernel_rfl) (fun _ _ _ h => h) (Or.inl ⟨by rfl, ?wah11⟩) (by assumption) ?war11
    case wah11 => ((intro w hSw; (try dsimp only at hSw); go_simp); try with_reducible rfl)
    try simp only [Act.put, List.setIfInBounds_toArray, List.set_cons_zero, List.set_cons_succ]
    refine wpAnyH_take (i := 12) (oi := { dst := some 23, op := Op.indexAddr 62 (Operand.tmp 21) (Operand.tmp 22), type := 0, pos := "ref.go:102", after := #[{ on := 10, ground := Ground.data }, { on := 11, ground := Ground.data }], guard := none }) (v := ?wav12) rfl (by kernel_rfl) (by kernel_rfl) (by kernel_rfl) (fun _ _ _ h => h) (Or.inl ⟨by rfl, ?wah12⟩) (by assumption) ?war12
    case wah12 => ((intro w hSw; (try dsimp only at hSw); go_simp); try with_reducible rfl)
    try simp only [Act.put, List.setIfInBounds_toArray, List.set_cons_zero, List.set_cons_succ]
    refine wpAnyH_take (i := 13) (oi := { dst := some 24, op := Op.load 3 (Operand.tmp 23), type := 3, pos := "ref.go:102", after := #[{ on := 12, ground := Ground.data }], guard := none }) (v := ?wav13) rfl (by kernel_rfl) (by kernel_rfl) (by kernel_rfl) (fun _ _ _ h => h) (Or.inl ⟨by rfl, ?wah13⟩) (by assumption) ?war13
    case wah13 => ((intro w hSw; (try dsimp only at hSw); go_simp); try with_reducible rfl)
    try simp only [Act.put, List.setIfInBounds_toArray, List.set_cons_zero, List.set_cons_succ]
    refine wpAnyH_take (i := 14) (oi := { dst := some 25, op := Op.indexAddr 71 (Operand.tmp 17) (Operand.tmp 24), type := 0, pos := "ref.go:102", after := #[{ on := 6, ground := Ground.data }, { on := 13, ground := Ground.data }], guard := none }) (v := ?wav14) rfl (by kernel_rfl) (by kernel_rfl) (by kernel_rfl) (fun _ _ _ h => h) (Or.inl ⟨by rfl, ?wah14⟩) (by assumption) ?war14
    case wah14 => ((intro w hSw; (try dsimp only at hSw); go_simp); try with_reducible rfl)
    try simp only [Act.put, List.setIfInBounds_toArray, List.set_cons_zero, List.set_cons_succ]
    refine wpAnyH_take (i := 15) (oi := { dst := some 26, op := Op.load 70 (Operand.tmp 25), type := 70, pos := "ref.go:102", after := #[{ on := 14, ground := Ground.data }], guard := none }) (v := ?wav15) rfl (by kernel_rfl) (by kernel_rfl) (by kernel_rfl) (fun _ _ _ h => h) (Or.inl ⟨by rfl, ?wah15⟩) (by assumption) ?war15
    case wah15 => ((intro w hSw; (try dsimp only at hSw); go_simp); try with_reducible rfl)
    try simp only [Act.put, List.setIfInBounds_toArray, List.set_cons_zero, List.set_cons_succ]
    refine wpAnyH_ready (rs := [16]) (by kernel_rfl) (by simp) ?_
    refine AllReadyH.cons (o := { dst := some 5, op := Op.alloc 70, type := 0, pos := "ref.go:102", after := #[], guard := none }) rfl (fun K hK => ?_) AllReadyH.nil
    go_simp; refine hK.out _ _ (by first | exact (HW1.out.alloc HW1.out.size _).drew | exact HW1.out.alloc HW1.out.size _) (fun hHeld => ?_)
    clear hK K
    try simp only [Act.put, List.setIfInBounds_toArray, List.set_cons_zero, List.set_cons_succ]
    refine wpAnyH_ready (rs := [17]) (by kernel_rfl) (by simp) ?_
    refine AllReadyH.cons (o := { dst := none, op := Op.store 70 (Operand.tmp 5) (Operand.tmp 26), type := 0, pos := "ref.go:102", after := #[{ on := 16, ground := Ground.data }, { on := 15, ground := Ground.data }, { on := 0, ground := Ground.phase }, { on := 1, ground := Ground.phase }, { on := 2, ground := Ground.phase }, { on := 3, ground := Ground.phase }, { on := 4, ground := Ground.phase }, { on := 5, ground := Ground.phase }, { on := 6, ground := Ground.phase }, { on := 7, ground := Ground.phase }, { on := 8, ground := Ground.phase }, { on := 9, ground := Ground.phase }, { on := 10, ground := Ground.phase }, { on := 11, ground := Ground.phase }, { on := 12, ground := Ground.phase }, { on := 13, ground := Ground.phase }, { on := 14, ground := Ground.phase }, { on := 15, ground := Ground.phase }, { on := 16, ground := Ground.phase }], guard := none }) rfl (fun K hK => ?_) AllReadyH.nil
    go_simp; refine hK.out _ _ (by exact (HW1.out.alloc HW1.out.size _).drew) (fun hHeld => ?_)
    clear hK K
    try simp only [Act.put, List.setIfInBounds_toArray, List.set_cons_zero, List.set_cons_succ]
    refine wpAnyH_done (by kernel_rfl) ?_ _
    go_wp2_with fail
    go_meet
    exact ⟨_, rfl, HW1.out.size, heap_alloc_new w1 _, (HW1.out.alloc HW1.out.size _).drew⟩
  case rest =>
    obtain ⟨b2, rfl, hbz, hbb, hbc⟩ := hcut
    have HBC := hid hbc
    have HT := hid (HH.out.below hbc)
    obtain ⟨c0, c1, c2, c3, c4, c5, c6, c7⟩ := HT.out.cells
    obtain ⟨f0, -, -⟩ := HT.out.handAt hk
    have y1 := cell_of_row _ _ 1 _ _ _ hbb
    simp only [List.getElem?_toArray, List.getElem?_cons_zero, List.getElem?_cons_succ] at y1
    rw [HX.out] at f0
    clear g3 g4 gd0 gd1 ge0 ge1 ge2 hbc hbb
    by_cases hx0 : x = 0
    · subst hx0
      have HL := hid (HT.out.lockAt (TabIs.shLt HK ak.key))
      have HO := hid (fun (w1 : World) => rof2_any ak.key (K.shards : Nat) w1 (by have := HK.keys k _ (ask_mem HN0.out); rw [hak] at this; omega) (by have := HK.sh; omega))
      rw [← HK.ofs] at HO
      have hlo : S.lockOf K k = S.locks.getD (K.of ak.key) (-1) := by unfold Sh.lockOf; rw [hak]
      have hsh := TabIs.shLt HK ak.key
      have hshI : (K.of ak.key : Int) < K.shards := by omega
      have hl0 := HL.out
      unfold Hid at hl0
      have hr2 : res = (decide (0 ≤ S.lockOf K k) && decide (S.lockOf K k ≠ k)) := HRES.out
      rw [hlo] at hr2
      have HR2 := hid hr2
      clear HRES hr2
      generalize S.locks.getD (K.of ak.key) (-1) = ow at *
      generalize K.of ak.key = cl at *
      generalize K.shards = sh at *
      generalize K.work.length = n at *
      clear HT HL hlo hak
      go_upto_region 6 with fail
      go_quiet ((go_at_call 11; exact (HO.out _).mono fun _ _ ⟨h1, h2⟩ => ⟨h1, _, h2⟩))
      go_wp2_with fail
      all_goals (go_ret; refine ⟨ret_bool ?_, below_drewN HBC.out _⟩)
      all_goals rw [HR2.out]
      all_goals (by_cases he : ow = k <;> by_cases h0w : 0 ≤ ow <;> first | (exfalso; omega) | (simp_all; done) | (simp_all; omega))
    · by_cases hx5 : x = 5
      · subst hx5
        have HR := hid (rrow HT.out hl ak.key)
        obtain ⟨pr, cr, hvr, hrow⟩ := own_shape HT.out.rows
        rw [hvr] at c2
        by_cases hi : rixN S.rows ak.key < S.rows.length
        · have hxi : rixI S.rows ak.key = rixN S.rows ak.key := by unfold rixI; rw [if_pos hi]
          rw [hxi] at HR
          have hr2 : res = !S.toldN ak.key := HRES.out
          rw [(get_rix S ak.key hi).2] at hr2
          have HR2 := hid hr2
          clear HRES hr2
          obtain ⟨b3, o3, rfl, hbl3, -⟩ := hrow.at (by have := flat_len Rw.cells 3 (fun _ => rfl) S.rows; omega)
          obtain ⟨-, -, x2⟩ := row_fields hrow _ hi
          have hiI : (rixN S.rows ak.key : Int) < S.rows.length := by omega
          have hri : ¬ (rixN S.rows ak.key : Int) < 0 := by omega
          generalize (S.rows[rixN S.rows ak.key]).told = tb at *
          generalize rixN S.rows ak.key = ri at *
          generalize S.rows.length = rn at *
          generalize K.work.length = n at *
          clear hrow hvr hxi HT hak
          go_wp2_with (go_at_call 43; (with_reducible refine HR.out.mono ?_); rintro e w3 ⟨rfl, hw3⟩; subst hw3)
          all_goals (go_ret; refine ⟨ret_bool (by rw [HR2.out]; simp_all <;> (intro h; omega)), HBC.out⟩)
        · have hxi : rixI S.rows ak.key = -1 := by unfold rixI; rw [if_neg hi]
          rw [hxi] at HR
          have hr2 : res = !S.toldN ak.key := HRES.out
          rw [(get_rixN S ak.key hi).2] at hr2
          have HR2 := hid hr2
          clear HRES hr2
          generalize K.work.length = n at *
          clear hrow hvr hxi HT hak
          go_wp2_with (go_at_call 43; (with_reducible refine HR.out.mono ?_); rintro e w3 ⟨rfl, hw3⟩; subst hw3)
          all_goals (go_ret; refine ⟨ret_bool (by rw [HR2.out]; simp_all <;> (intro h; omega)), HBC.out⟩)
      · have hv2 : res = false := by
          have hr := HRES.out
          unfold Hid at hr
          rw [hr]
          clear hr HRES HX f0
          split
          all_goals first | rfl | contradiction | (exfalso; simp_all)
        have HR2 := hid hv2
        generalize K.work.length = n at *
        clear HT hak hv2 HRES
        have hx0I : ¬ (x : Int) = 0 := by omega
        have hx5I : ¬ (x : Int) = 5 := by omega
        go_wp2_with fail
        go_ret
        exact ⟨ret_bool HR2.out.symm, HBC.out⟩
end Go.Proofs.Ytabkmdhkfbcldaa
namespace Go.Proofs.Ytabkmdhkfbcldaa
open Go.RowKit
variable {W W' : World} {base r : Nat} {K : Wk} {S : Sh} {B : RB}

theorem RIs.tagR (h : RIs W base r K S B) : tagAt W r = some (84 + 1) := by unfold tagAt; rw [h.head]; rfl
theorem RIs.tagL (h : RIs W base r K S B) : tagAt W B.bl = some (3 + 1) := by unfold tagAt; rw [h.locks]; rfl
theorem RIs.tagN (h : RIs W base r K S B) : tagAt W B.bn = some (3 + 1) := by unfold tagAt; rw [h.nexts]; rfl
theorem RIs.tagH (h : RIs W base r K S B) : tagAt W B.bh = some (93 + 1) := by unfold tagAt; rw [h.hands]; rfl
theorem AskIs.blk {wp : Option Addr} {wc : Nat} {zs : List AkR} (h : AskIs W wp wc zs) (hk : ∀ b, b < base → W'.heap[b]? = W.heap[b]?) (hw : AsksLt base wp zs) : AskIs W' wp wc zs := by
  refine ⟨?_, h.c, fun z hz => ⟨(h.each z hz).1, ?_, (h.each z hz).2.2⟩⟩
  · by_cases e : zs = []
    · subst e; exact Row.nil _ _
    · exact row_blk h.row (fun q hq => hk _ (hw.1 q hq e))
  · by_cases e : z.2.2 = []
    · rw [e]; exact Row.nil _ _
    · exact row_blk (h.each z hz).2.1 (fun q hq => hk _ (hw.2 z hz e q hq))
/-- All that a store elsewhere leaves. -/
theorem RIs.work_set (h : RIs W base r K S B) (a : Addr) (v : Value) (hb : base ≤ a.block) : AskIs (W.setCell a v) B.wp B.wc B.zs :=
  h.work.blk (fun b hlt => Below.heap_setCell W a v b (by omega)) h.wlt
theorem RIs.setSteps (h : RIs W base r K S B) (m : Nat) : RIs (W.setCell ⟨r, 7, none⟩ (.int .i64 (m : Nat))) base r K { S with steps := m } B := by
  have hl : B.bl ≠ r := tag_ne h.tagL h.tagR (by decide)
  have hn : B.bn ≠ r := tag_ne h.tagN h.tagR (by decide)
  have hh : B.bh ≠ r := tag_ne h.tagH h.tagR (by decide)
  refine ⟨heap_setCell_same _ _ 7 _ _ _ h.head, (heap_setCell_other _ _ _ _ hl).trans h.locks, (heap_setCell_other _ _ _ _ hn).trans h.nexts, (heap_setCell_other _ _ _ _ hh).trans h.hands,
    own_setO h.rows _ _ (fun g hg => tag_ne (own_tag h.rows hg) h.tagR (by decide)), own_setO h.calls _ _ (fun g hg => tag_ne (own_tag h.calls hg) h.tagR (by decide)), h.work_set _ _ h.ge.1, h.wk, h.ge, h.ne, h.wlt, h.nxl, h.hnl, h.lkl⟩
theorem RIs.setLock (h : RIs W base r K S B) (i : Nat) (o : Int) : RIs (W.setCell ⟨B.bl, i, none⟩ (.int .i64 o)) base r K { S with locks := S.locks.set i o } B := by
  have hl : r ≠ B.bl := tag_ne h.tagR h.tagL (by decide)
  have hh : B.bh ≠ B.bl := tag_ne h.tagH h.tagL (by decide)
  refine ⟨(heap_setCell_other _ _ _ _ hl).trans h.head, ?_, (heap_setCell_other _ _ _ _ (fun e => h.ne e.symm)).trans h.nexts, (heap_setCell_other _ _ _ _ hh).trans h.hands,
    own_setO h.rows _ _ (fun g hg => tag_ne (own_tag h.rows hg) h.tagL (by decide)), own_setO h.calls _ _ (fun g hg => tag_ne (own_tag h.calls hg) h.tagL (by decide)), h.work_set _ _ h.ge.2.1, h.wk, h.ge, h.ne, h.wlt, h.nxl, h.hnl, by rw [List.length_set]; exact h.lkl⟩
  have e := heap_setCell_same W B.bl i _ _ (.int .i64 o) h.locks
  rw [e]
  show some (Obj.cells ((S.locks.map intV).toArray.setIfInBounds i (.int .i64 o)) _ _) = some (locksO (S.locks.set i o))
  unfold locksO
  rw [List.map_set, List.setIfInBounds_toArray]; rfl
theorem RIs.setNext (h : RIs W base r K S B) (k m : Nat) : RIs (W.setCell ⟨B.bn, k, none⟩ (.int .i64 (m : Nat))) base r K { S with next := S.next.set k m } B := by
  have hl : r ≠ B.bn := tag_ne h.tagR h.tagN (by decide)
  have hh : B.bh ≠ B.bn := tag_ne h.tagH h.tagN (by decide)
  refine ⟨(heap_setCell_other _ _ _ _ hl).trans h.head, (heap_setCell_other _ _ _ _ h.ne).trans h.locks, ?_, (heap_setCell_other _ _ _ _ hh).trans h.hands,
    own_setO h.rows _ _ (fun g hg => tag_ne (own_tag h.rows hg) h.tagN (by decide)), own_setO h.calls _ _ (fun g hg => tag_ne (own_tag h.calls hg) h.tagN (by decide)), h.work_set _ _ h.ge.2.2.1, h.wk, h.ge, h.ne, h.wlt, by rw [List.length_set]; exact h.nxl, h.hnl, h.lkl⟩
  have e := heap_setCell_same W B.bn k _ _ (.int .i64 (m : Nat)) h.nexts
  rw [e]
  show some (Obj.cells ((S.next.map natV).toArray.setIfInBounds k (.int .i64 (m : Nat))) _ _) = some (nextsO (S.next.set k m))
  unfold nextsO
  rw [List.map_set, List.setIfInBounds_toArray]; rfl
theorem RIs.setHand (h : RIs W base r K S B) (k : Nat) (hk : k < S.hands.length) (j : Nat) (hj : j < 3) (v : Value) (x : Hn) (hx : x.cells = (S.hand k).cells.set j v) : RIs (W.setCell ⟨B.bh, k * 3 + j, none⟩ v) base r K { S with hands := S.hands.set k x } B := by
  have hl : r ≠ B.bh := tag_ne h.tagR h.tagH (by decide)
  refine ⟨(heap_setCell_other _ _ _ _ hl).trans h.head, (heap_setCell_other _ _ _ _ (tag_ne h.tagL h.tagH (by decide))).trans h.locks, (heap_setCell_other _ _ _ _ (tag_ne h.tagN h.tagH (by decide))).trans h.nexts, ?_,
    own_setO h.rows _ _ (fun g hg => tag_ne (own_tag h.rows hg) h.tagH (by decide)), own_setO h.calls _ _ (fun g hg => tag_ne (own_tag h.calls hg) h.tagH (by decide)), h.work_set _ _ h.ge.2.2.2, h.wk, h.ge, h.ne, h.wlt, h.nxl, by rw [List.length_set]; exact h.hnl, h.lkl⟩
  have e := heap_setCell_same W B.bh (k * 3 + j) _ _ v h.hands
  rw [e]
  have eh : S.hand k = S.hands[k] := by unfold Sh.hand; simp [List.getD_eq_getElem?_getD, hk]
  rw [eh] at hx
  have e2 := flat_set Hn.cells 3 (fun _ => rfl) S.hands k hk j v x hj hx
  show some (Obj.cells ((S.hands.flatMap Hn.cells).toArray.setIfInBounds (k * 3 + j) v) _ _) = some (handsO (S.hands.set k x))
  unfold handsO
  rw [List.setIfInBounds_toArray, e2]
theorem RIs.setCall (h : RIs W base r K S B) {g c : Nat} (hv : B.vc = .slice (some ⟨g, 0, none⟩) S.calls.length c) (i : Nat) (hi : i < S.calls.length) (j : Nat) (hj : j < 8) (v : Value) (y : Cl) (hy : y.cells = (cAt S.calls i).cells.set j v) : RIs (W.setCell ⟨g, i * 8 + j, none⟩ v) base r K { S with calls := S.calls.set i y } B := by
  have hg : B.vc.ownBlock = some g := by rw [hv]; rfl
  have tg := own_tag h.calls hg
  refine ⟨(heap_setCell_other _ _ _ _ (tag_ne h.tagR tg (by decide))).trans h.head, (heap_setCell_other _ _ _ _ (tag_ne h.tagL tg (by decide))).trans h.locks, (heap_setCell_other _ _ _ _ (tag_ne h.tagN tg (by decide))).trans h.nexts, (heap_setCell_other _ _ _ _ (tag_ne h.tagH tg (by decide))).trans h.hands,
    own_setO h.rows _ _ (fun g2 hg2 => tag_ne (own_tag h.rows hg2) tg (by decide)), ?_, h.work_set _ _ (own_ge h.calls g hg), h.wk, h.ge, h.ne, h.wlt, h.nxl, h.hnl, h.lkl⟩
  have ho := h.calls
  rw [hv] at ho
  have h2 := own_set ho (i * 8 + j) v
  rw [flat_set Cl.cells 8 (fun _ => rfl) S.calls i hi j v y hj (by rw [hy, cAt_get _ _ hi])] at h2
  show (W.setCell _ v).ownsRow base 46 8 B.vc (S.calls.set i y).length ((S.calls.set i y).flatMap Cl.cells)
  rw [List.length_set, hv]
  exact h2
theorem RIs.setTold (h : RIs W base r K S B) {g c : Nat} (hv : B.vr = .slice (some ⟨g, 0, none⟩) S.rows.length c) (i : Nat) (hi : i < S.rows.length) (j : Nat) (hj : j < 3) (v : Value) (y : Rw) (hy : y.cells = (S.rows[i]).cells.set j v) : RIs (W.setCell ⟨g, i * 3 + j, none⟩ v) base r K { S with rows := S.rows.set i y } B := by
  have hg : B.vr.ownBlock = some g := by rw [hv]; rfl
  have tg := own_tag h.rows hg
  refine ⟨(heap_setCell_other _ _ _ _ (tag_ne h.tagR tg (by decide))).trans h.head, (heap_setCell_other _ _ _ _ (tag_ne h.tagL tg (by decide))).trans h.locks, (heap_setCell_other _ _ _ _ (tag_ne h.tagN tg (by decide))).trans h.nexts, (heap_setCell_other _ _ _ _ (tag_ne h.tagH tg (by decide))).trans h.hands,
    ?_, own_setO h.calls _ _ (fun g2 hg2 => tag_ne (own_tag h.calls hg2) tg (by decide)), h.work_set _ _ (own_ge h.rows g hg), h.wk, h.ge, h.ne, h.wlt, h.nxl, h.hnl, h.lkl⟩
  have ho := h.rows
  rw [hv] at ho
  have h2 := own_set ho (i * 3 + j) v
  rw [flat_set Rw.cells 3 (fun _ => rfl) S.rows i hi j v y hj hy] at h2
  show (W.setCell _ v).ownsRow base 55 3 B.vr (S.rows.set i y).length ((S.rows.set i y).flatMap Rw.cells)
  rw [List.length_set, hv]
  exact h2
/-- Behind an append, ahead of its store. -/
theorem RIs.grown (h : RIs W base r K S B) {o : Obj} {row : Option Nat} (hg : (W.alloc o).grownBy W' row) (hr : ∀ b, row = some b → base ≤ b ∧ b ≠ r ∧ b ≠ B.bl ∧ b ≠ B.bn ∧ b ≠ B.bh) : W'.heap[r]? = some (headR K S B S.steps) ∧ W'.heap[B.bl]? = some (locksO S.locks) ∧ W'.heap[B.bn]? = some (nextsO S.next) ∧ W'.heap[B.bh]? = some (handsO S.hands) ∧ AskIs W' B.wp B.wc B.zs := by
  obtain ⟨l0, l1, l2, l3⟩ := h.lt
  have hk : ∀ b, b < W.heap.size → some b ≠ row → W'.heap[b]? = W.heap[b]? := fun b hb hne => (hg.block b (by simp; omega) hne).trans (Below.heap_alloc W o b hb)
  refine ⟨(hk r l0 (fun e => (hr r e.symm).2.1 rfl)).trans h.head, (hk _ l1 (fun e => (hr _ e.symm).2.2.1 rfl)).trans h.locks, (hk _ l2 (fun e => (hr _ e.symm).2.2.2.1 rfl)).trans h.nexts, (hk _ l3 (fun e => (hr _ e.symm).2.2.2.2 rfl)).trans h.hands, ?_⟩
  exact h.work.blk (base := base) (fun b hb => hk b (by have := h.ge.1; omega) (fun e => by have := (hr b e.symm).1; omega)) h.wlt
theorem RIs.addCall (h : RIs W base r K S B) {o : Obj} {v' : Value} {c : Cl} (ho : W'.ownsRow base 46 8 v' (S.calls.length + 1) (S.calls.flatMap Cl.cells ++ c.cells)) (hg : (W.alloc o).grownBy W' B.vc.ownBlock) : RIs (W'.setCell ⟨r, 6, none⟩ v') base r K { S with calls := S.calls ++ [c] } { B with vc := v' } := by
  have tg : ∀ b, B.vc.ownBlock = some b → tagAt W b = some (46 + 1) := fun b hb => own_tag h.calls hb
  obtain ⟨e0, e1, e2, e3, e4⟩ := h.grown hg (fun b hb => ⟨own_ge h.calls b hb, tag_ne (tg b hb) h.tagR (by decide), tag_ne (tg b hb) h.tagL (by decide), tag_ne (tg b hb) h.tagN (by decide), tag_ne (tg b hb) h.tagH (by decide)⟩)
  have hr2 : W'.ownsRow base 55 3 B.vr S.rows.length (S.rows.flatMap Rw.cells) := own_blk h.rows (fun b hb => (hg.block b (by have := own_lt h.rows b hb; simp; omega) (fun e => tag_ne (own_tag h.rows hb) (tg b e.symm) (by decide) rfl)).trans (Below.heap_alloc W o b (own_lt h.rows b hb)))
  have tR : tagAt W' r = some (84 + 1) := by unfold tagAt; rw [e0]; rfl
  have hl : B.bl ≠ r := tag_ne h.tagL h.tagR (by decide)
  have hn : B.bn ≠ r := tag_ne h.tagN h.tagR (by decide)
  have hh : B.bh ≠ r := tag_ne h.tagH h.tagR (by decide)
  refine ⟨heap_setCell_same _ _ 6 _ _ _ e0, (heap_setCell_other _ _ _ _ hl).trans e1, (heap_setCell_other _ _ _ _ hn).trans e2, (heap_setCell_other _ _ _ _ hh).trans e3, own_setO hr2 _ _ (fun g2 hg2 => tag_ne (own_tag hr2 hg2) tR (by decide)), ?_, e4.blk (base := base) (fun b hb => Below.heap_setCell W' _ _ b (by have := h.ge.1; show b ≠ r; omega)) h.wlt, h.wk, h.ge, h.ne, h.wlt, h.nxl, h.hnl, h.lkl⟩
  have h2 := own_setO ho ⟨r, 6, none⟩ v' (fun g2 hg2 => tag_ne (own_tag ho hg2) tR (by decide))
  show (W'.setCell _ v').ownsRow base 46 8 v' (S.calls ++ [c]).length ((S.calls ++ [c]).flatMap Cl.cells)
  rw [List.length_append, List.flatMap_append]
  simpa using h2
theorem RIs.addRow (h : RIs W base r K S B) {o : Obj} {v' : Value} {c : Rw} (ho : W'.ownsRow base 55 3 v' (S.rows.length + 1) (S.rows.flatMap Rw.cells ++ c.cells)) (hg : (W.alloc o).grownBy W' B.vr.ownBlock) : RIs (W'.setCell ⟨r, 2, none⟩ v') base r K { S with rows := S.rows ++ [c] } { B with vr := v' } := by
  have tg : ∀ b, B.vr.ownBlock = some b → tagAt W b = some (55 + 1) := fun b hb => own_tag h.rows hb
  obtain ⟨e0, e1, e2, e3, e4⟩ := h.grown hg (fun b hb => ⟨own_ge h.rows b hb, tag_ne (tg b hb) h.tagR (by decide), tag_ne (tg b hb) h.tagL (by decide), tag_ne (tg b hb) h.tagN (by decide), tag_ne (tg b hb) h.tagH (by decide)⟩)
  have hr2 : W'.ownsRow base 46 8 B.vc S.calls.length (S.calls.flatMap Cl.cells) := own_blk h.calls (fun b hb => (hg.block b (by have := own_lt h.calls b hb; simp; omega) (fun e => tag_ne (own_tag h.calls hb) (tg b e.symm) (by decide) rfl)).trans (Below.heap_alloc W o b (own_lt h.calls b hb)))
  have tR : tagAt W' r = some (84 + 1) := by unfold tagAt; rw [e0]; rfl
  have hl : B.bl ≠ r := tag_ne h.tagL h.tagR (by decide)
  have hn : B.bn ≠ r := tag_ne h.tagN h.tagR (by decide)
  have hh : B.bh ≠ r := tag_ne h.tagH h.tagR (by decide)
  refine ⟨heap_setCell_same _ _ 2 _ _ _ e0, (heap_setCell_other _ _ _ _ hl).trans e1, (heap_setCell_other _ _ _ _ hn).trans e2, (heap_setCell_other _ _ _ _ hh).trans e3, ?_, own_setO hr2 _ _ (fun g2 hg2 => tag_ne (own_tag hr2 hg2) tR (by decide)), e4.blk (base := base) (fun b hb => Below.heap_setCell W' _ _ b (by have := h.ge.1; show b ≠ r; omega)) h.wlt, h.wk, h.ge, h.ne, h.wlt, h.nxl, h.hnl, h.lkl⟩
  have h2 := own_setO ho ⟨r, 2, none⟩ v' (fun g2 hg2 => tag_ne (own_tag ho hg2) tR (by decide))
  show (W'.setCell _ v').ownsRow base 55 3 v' (S.rows ++ [c]).length ((S.rows ++ [c]).flatMap Rw.cells)
  rw [List.length_append, List.flatMap_append]
  simpa using h2
end Go.Proofs.Ytabkmdhkfbcldaa
