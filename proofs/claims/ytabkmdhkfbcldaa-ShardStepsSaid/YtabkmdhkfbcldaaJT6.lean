/-
  The document's table: Waits and Step, any worker.
  The document's table: total; what New makes.
  The document's table: New.
  The document's table: New, the walk.
  The document's table: New, any arguments.
  The document's table: All, in plain words.
  The document's table: All, the walk.
-/
import Derived.Test.YtabkmdhkfbcldaaJT5
import Derived.Test.YtabkmdhkfbcldaaJI5
import Derived.RegionTactic
import Derived.Sort.Walk0
namespace Go.Proofs.Ytabkmdhkfbcldaa
open Go.RowKit
variable {W W' : World} {base r : Nat} {K : Wk} {S : Sh} {B : RB}

theorem rwaits_any (h : RIs W base r K S B) (ho : ShOk K S) (HK : WkOk K) (hsz : ∀ k, (K.own k).length ≤ 1000000) (hl : S.rows.length ≤ 1000000) (w : Int) :
    Calls Try.prog 25 #[.pointer (some ⟨r, 0, none⟩), .int .i64 w] W fun e w' => e = .returned (.bool (S.waitsI K w)) ∧ Below W.heap.size W w' := by
  by_cases hd : S.doneI K w = true
  · exact rwaits_done h hsz w hd
  · have hd : S.doneI K w = false := by simpa using hd
    obtain ⟨k, rfl⟩ : ∃ k : Nat, w = k := ⟨w.toNat, by unfold Sh.doneI at hd; simp at hd; omega⟩
    have hk : k < K.work.length := by unfold Sh.doneI at hd; simp at hd; omega
    have hdn : S.doneN K k = false := by unfold Sh.doneI at hd; simp at hd; exact hd.2
    exact rwaits_not h HK hsz hl k hk hd (ho.nx hk hdn)
theorem RStep.stays (h : RIs W base r K S B) (hbs : base ≤ W.heap.size) (hb : Below W.heap.size W W') : RStep W base r K B S (.returned (.tuple #[])) W' :=
  ⟨rfl, B, h.below hb, fun _ hb => .inl hb, But.of_below hb, hb.mono hbs⟩
set_option maxRecDepth 20000 in
theorem rstep_any (h : RIs W base r K S B) (hbs : base ≤ W.heap.size) (HK : WkOk K) (ho : ShOk K S) (hid0 : Idle S) (hrl : S.rows.length ≤ 1000000) (w : Int) (hst : S.steps ≤ 1000000) (hsz : ∀ k, (K.own k).length ≤ 1000000) :
    Calls Try.prog 21 #[.pointer (some ⟨r, 0, none⟩), .int .i64 w] W (RStep W base r K B (S.stepI K w)) := by
  have HD := hid (rdone h hsz w)
  have HSS := hid (fun (w' : World) (hb : Below W.heap.size W w') => RStep.stays h hbs hb)
  by_cases hd : S.doneI K w = true
  · have hs : S.stepI K w = S := by
      unfold Sh.stepI
      by_cases h0 : w < 0
      · rw [if_pos h0]
      · rw [if_neg h0]
        refine step_not ?_
        unfold Sh.canN
        have : S.doneN K w.toNat = true := by
          unfold Sh.doneI at hd
          simp only [Bool.or_eq_true, decide_eq_true_eq] at hd
          rcases hd with (h | h) | h
          · exact absurd h h0
          · unfold Sh.doneN; rw [decide_eq_true (show K.work.length ≤ w.toNat by omega)]; rfl
          · exact h
        rw [this]; rfl
    rw [hs]
    rw [hd] at HD
    clear hs hd h
    go_enter Try.func21, Try.ntmps21
    go_wp2_with (go_at_call 24; (with_reducible refine HD.out.mono ?_); rintro e w1 ⟨rfl, q1, rfl⟩)
    refine bodyPost_ret (v := .tuple #[]) (results_none rfl _ _ _) rfl ?_
    exact HSS.out _ (below_drewN (Below.refl _ _) _)
  · have hd : S.doneI K w = false := by simpa using hd
    obtain ⟨k, rfl⟩ : ∃ k : Nat, w = k := ⟨w.toNat, by unfold Sh.doneI at hd; simp at hd; omega⟩
    have hk : k < K.work.length := by unfold Sh.doneI at hd; simp at hd; omega
    have hdn : S.doneN K k = false := by unfold Sh.doneI at hd; simp at hd; exact hd.2
    have hsi : S.stepI K (k : Int) = S.stepN K k := by unfold Sh.stepI; rw [if_neg (by omega), Int.toNat_natCast]
    rw [hsi]
    cases hw : S.waitsN K k with
    | true =>
      have HW := hid (fun (w1 : World) (hb : Below W.heap.size W w1) => rwaits_any (h.below hb) ho HK hsz hrl (k : Int))
      have hwf : S.waitsI K (k : Int) = true := by unfold Sh.waitsI; rw [Int.toNat_natCast, hw, hd]; rfl
      rw [hwf] at HW
      rw [hd] at HD
      rw [step_not (by unfold Sh.canN; rw [hw]; simp)]
      clear hsi hd hdn hw hwf h
      go_enter Try.func21, Try.ntmps21
      go_wp2_with (first
        | (go_at_call 24; (with_reducible refine HD.out.mono ?_); rintro e w1 ⟨rfl, q1, rfl⟩)
        | (go_at_call 25; (with_reducible refine (HW.out _ (below_drewN (Below.refl _ _) q1)).mono ?_); rintro e w2 ⟨rfl, hb2⟩; have HB2 := hid (below_more hb2 (below_drewN (Below.refl _ _) q1) (Nat.le_refl _)); clear hb2))
      refine bodyPost_ret (v := .tuple #[]) (results_none rfl _ _ _) rfl ?_
      exact HSS.out _ HB2.out
    | false =>
      have hcan : S.canN K k = true := by unfold Sh.canN; rw [hw, hdn]; rfl
      have h5 : (S.hand k).at_ ≤ 5 := by
        by_cases h0 : (S.hand k).at_ = 0
        · omega
        · exact ((ho.each k hk).inh h0).2.2
      rcases (show (S.hand k).at_ = 0 ∨ (S.hand k).at_ = 1 ∨ (S.hand k).at_ = 2 ∨ (S.hand k).at_ = 3 ∨ (S.hand k).at_ = 4 ∨ (S.hand k).at_ = 5 by omega) with e | e | e | e | e | e
      · exact rstep0 h hbs HK ho hrl k hk hid0 hcan e hst hsz
      · exact rstep1 h hbs HK ho hrl k hk hcan e hst hsz
      · exact rstep2 h hbs HK ho hrl k hk hcan e hst hsz
      · exact rstep3 h hbs HK ho hrl k hk hcan e hst hsz
      · exact rstep4 h hbs HK ho hrl k hk hcan e hst hsz
      · exact rstep5 h hbs HK ho hrl k hk hcan e hst hsz
end Go.Proofs.Ytabkmdhkfbcldaa
namespace Go.Proofs.Ytabkmdhkfbcldaa
open Go.RowKit
variable {W W' w w' : World} {base r : Nat} {K : Wk} {S : Sh} {B : RB}

/-- The lengths of the first lists, counted to 1025. -/
def capR (zs : List AkR) : Nat → Nat
  | 0 => 0
  | k + 1 => min (capR zs k + (zs.getD k (none, 0, [])).2.2.length) 1025
theorem capR_le (zs : List AkR) : ∀ k, capR zs k ≤ 1025
  | 0 => by simp [capR]
  | k + 1 => by simp only [capR]; omega
theorem capR_is (zs : List AkR) : ∀ k, k ≤ zs.length → capR zs k = min (totA ((lists zs).take k)) 1025
  | 0, _ => by simp [capR, totA]
  | k + 1, hk => by
    have hl : (lists zs).length = zs.length := by simp [lists]
    have h4 := totA_succ (lists zs) k (by rw [hl]; omega)
    have h6 : (zs.getD k (none, 0, [])).2.2 = (lists zs)[k]'(by rw [hl]; omega) := by simp [lists, List.getD_eq_getElem?_getD, show k < zs.length by omega]
    rw [capR, capR_is zs k (by omega), h6]
    omega
set_option maxRecDepth 20000 in
set_option maxHeartbeats 2000000 in
theorem rtotal (wp : Option Addr) (wc : Nat) (zs : List AkR) (hA : AskIs w wp wc zs) (hq : ∀ z ∈ zs, z.2.2.length ≤ 4398046511104) :
    Calls Try.prog 38 #[.slice wp zs.length wc] w fun e w' => e = .returned (.int .i64 (capR zs zs.length : Nat)) ∧ w = w' := by
  have HA := hid hA
  have HQ := hid hq
  have hwc := hA.c
  unfold maxLen at hwc
  clear hA hq
  go_enter Try.func38, Try.ntmps38
  go_wp2_with fail
  go_loopw [3, 4] (fun nv i wr => ∃ k : Nat, k ≤ zs.length ∧ i = .int .i64 k ∧ nv = .int .i64 (capR zs k : Nat) ∧ wr = w) (fun _ i _ => zs.length - (intOf i).toNat)
  case atStart => exact ⟨0, by omega, rfl, rfl, rfl⟩
  case round =>
    obtain ⟨k, hk, rfl, rfl, rfl⟩ := hrel
    have hcl := capR_le zs k
    by_cases hlt : k < zs.length
    · have hkI : (k : Int) < zs.length := by omega
      obtain ⟨b, o, rfl, hbl, hcell⟩ := akS_at HA.out (by omega)
      have hck := hcell k hlt
      have hlb := HQ.out _ (List.getElem_mem hlt)
      have HSU : Hid (capR zs (k + 1) = min (capR zs k + zs[k].2.2.length) 1025) := by unfold Hid; rw [capR]; simp [List.getD_eq_getElem?_getD, hlt]
      generalize zs[k] = z at *
      obtain ⟨zp, zc, l⟩ := z
      unfold akS at hck
      dsimp only at hck hlb HSU
      clear hcell
      generalize capR zs k = ck at *
      obtain ⟨s, hs, hsI, hs1, hs2⟩ := min_cast (ck + l.length) 1025
      have HS := hid hs
      have hsI' : min ((ck : Int) + l.length) 1025 = s := by have h := hsI; omega
      have hwr : IntKind.i64.wrap ((ck : Int) + (l.length : Nat)) = (ck : Int) + (l.length : Nat) := IntWalk.i64_in _ (by omega)
      clear hs hsI
      go_wp2_with fail
      exact ⟨⟨k + 1, by omega, by go_num, by rw [HSU.out, ← HS.out], by trivial⟩, by simp [intOf]; omega⟩
    · have hke : k = zs.length := by omega
      subst hke
      go_wp2_with fail
      go_ret
      exact ⟨ret_int rfl, by trivial⟩
end Go.Proofs.Ytabkmdhkfbcldaa
namespace Go.Proofs.Ytabkmdhkfbcldaa
open Go.RowKit
variable {W W' w w' : World} {base r : Nat} {K : Wk} {S : Sh} {B : RB}

theorem EHand : Elem Try.prog 82 93 3 24 (.agg #[.int .i64 0, .bool false, .int .i64 0]) := Elem.mk' Try.underlying82 (by kernel_rfl) rfl (by decide)
theorem madeHand (n : Nat) : madeCells (Value.agg #[.int .i64 0, .bool false, .int .i64 0]).cells (n * 3) = ((List.replicate n hn0).flatMap Hn.cells).toArray := by
  have hc : (Value.agg #[.int .i64 0, .bool false, .int .i64 0]).cells = #[.int .i64 0, .bool false, .int .i64 0] := rfl
  rw [hc]
  have hl := flat_len Hn.cells 3 (fun _ => rfl) (List.replicate n hn0)
  rw [List.length_replicate] at hl
  apply Array.ext_getElem?
  intro j
  by_cases hj : j < n * 3
  · have h1 := flat_get Hn.cells 3 (fun _ => rfl) (List.replicate n hn0) (j / 3) (by simp; omega) (j % 3) (by omega)
    rw [show 3 * (j / 3) + j % 3 = j by omega] at h1
    simp only [List.getElem_replicate] at h1
    have h2 : ((List.replicate n hn0).flatMap Hn.cells).toArray[j]? = (Hn.cells hn0)[j % 3]? := by rw [List.getElem?_toArray]; exact h1
    rw [h2]
    unfold madeCells
    have h5 : j % 3 = 0 ∨ j % 3 = 1 ∨ j % 3 = 2 := by omega
    rcases h5 with h | h | h <;> simp [h, hj, Hn.cells, hn0]
  · rw [Array.getElem?_eq_none (by simp [madeCells]; omega), Array.getElem?_eq_none (by simp only [List.size_toArray]; omega)]
theorem madeInt (n : Nat) : madeCells (Value.int .i64 0).cells (n * 1) = (List.replicate n (Value.int .i64 0)).toArray := by
  have hc : (Value.int .i64 0).cells = #[.int .i64 0] := rfl
  rw [hc]
  apply Array.toList_inj.1
  have hall : ∀ u ∈ (madeCells #[.int .i64 0] (n * 1)).toList, u = Value.int .i64 0 := by
    intro u hu
    simp only [madeCells, Array.toList_map, List.mem_map] at hu
    obtain ⟨j, _, rfl⟩ := hu
    have : j % 1 = 0 := by omega
    simp [this]
  rw [List.eq_replicate_of_mem hall]
  simp [madeCells]
set_option maxRecDepth 100000 in
theorem mkI (w : World) (r : Nat) (hr : r ≤ 256) : (Instr.makeSlice 62 (.int .i64 r) (.int .i64 r)).run Try.prog w = .ok (.slice (some ⟨w.heap.size, 0, none⟩) r r) (w.alloc (.cells (List.replicate r (.int .i64 0)).toArray 3)) := by
  obtain ⟨i, hi, hz, hsz, hby⟩ := EI.info
  have h3 : (i.bytes : Int) * r ≤ 281474976710656 := by rw [hby]; omega
  have := run_make (P := Try.prog) w 62 3 i _ EI.desc hi hz .i64 .i64 r r (Int.natCast_nonneg _) (Int.le_refl _) h3 (by omega)
  rw [Int.toNat_natCast, hsz, madeInt] at this
  exact this
set_option maxRecDepth 100000 in
theorem mkH (w : World) (r : Nat) (hr : r ≤ 64) : (Instr.makeSlice 82 (.int .i64 r) (.int .i64 r)).run Try.prog w = .ok (.slice (some ⟨w.heap.size, 0, none⟩) r r) (w.alloc (.cells ((List.replicate r hn0).flatMap Hn.cells).toArray 93)) := by
  obtain ⟨i, hi, hz, hsz, hby⟩ := EHand.info
  have h3 : (i.bytes : Int) * r ≤ 281474976710656 := by rw [hby]; omega
  have := run_make (P := Try.prog) w 82 93 i _ EHand.desc hi hz .i64 .i64 r r (Int.natCast_nonneg _) (Int.le_refl _) h3 (by omega)
  rw [Int.toNat_natCast, hsz, madeHand] at this
  exact this
def RNewT (w : World) (bw : Nat) (K : Wk) (er : Int) (e : Ending) (w' : World) : Prop :=
  (er ≠ 0 ∧ e = .returned (.tuple #[.pointer none, .int .i64 er]) ∧ Below w.heap.size w w') ∨
  (er = 0 ∧ ∃ R B, e = .returned (.tuple #[.pointer (some ⟨R, 0, none⟩), .int .i64 0]) ∧ RIs w' bw R K (Sh.start K) B ∧ (∀ b, B.fp R b → w.heap.size ≤ b) ∧ Below w.heap.size w w')
/-- The table, made; its locks are being set. -/
structure RNJ (w : World) (zs : List AkR) (wp : Option Addr) (wc m R bl bn bh k : Nat) (wr : World) : Prop where
  head : wr.heap[R]? = some (.cells #[.int .i64 m, .slice (some ⟨bl, 0, none⟩) m m, .slice none 0 0, .slice wp zs.length wc, .slice (some ⟨bn, 0, none⟩) zs.length zs.length, .slice (some ⟨bh, 0, none⟩) zs.length zs.length, .slice none 0 0, .int .i64 0] 84 (0, 0))
  locks : wr.heap[bl]? = some (.cells (List.replicate k (Value.int .i64 (-1)) ++ List.replicate (m - k) (Value.int .i64 0)).toArray 3 (0, 0))
  nexts : wr.heap[bn]? = some (.cells (List.replicate zs.length (Value.int .i64 0)).toArray 3 (0, 0))
  hands : wr.heap[bh]? = some (.cells ((List.replicate zs.length hn0).flatMap Hn.cells).toArray 93 (0, 0))
  b : Below w.heap.size w wr
  ge : w.heap.size ≤ R ∧ w.heap.size ≤ bl ∧ w.heap.size ≤ bn ∧ w.heap.size ≤ bh
  ne : bl ≠ bn ∧ bl ≠ R ∧ bl ≠ bh
theorem RNJ.set {zs : List AkR} {wp : Option Addr} {wc m R bl bn bh k : Nat} {wr : World} (h : RNJ w zs wp wc m R bl bn bh k wr) (hk : k < m) : RNJ w zs wp wc m R bl bn bh (k + 1) (wr.setCell ⟨bl, k, none⟩ (.int .i64 (-1))) := by
  refine ⟨(heap_setCell_other _ _ _ _ (fun e => h.ne.2.1 e.symm)).trans h.head, ?_, (heap_setCell_other _ _ _ _ (fun e => h.ne.1 e.symm)).trans h.nexts, (heap_setCell_other _ _ _ _ (fun e => h.ne.2.2 e.symm)).trans h.hands, h.b.setCell h.ge.2.1 _, h.ge, h.ne⟩
  rw [heap_setCell_same _ _ k _ _ _ h.locks, List.setIfInBounds_toArray]
  congr 2
  obtain ⟨d, hd⟩ : ∃ d, m - k = d + 1 := ⟨m - k - 1, by omega⟩
  rw [hd, show m - (k + 1) = d by omega, List.replicate_succ (n := d), List.replicate_succ' (n := k), List.set_append_right _ _ (by simp)]
  simp
theorem RNJ.done {zs : List AkR} {wp : Option Addr} {wc m R bl bn bh : Nat} {wr : World} (h : RNJ w zs wp wc m R bl bn bh m wr) (hA : AskIs w wp wc zs) {bw : Nat} (hbw : bw ≤ w.heap.size) (hwl : AsksLt bw wp zs) {K : Wk} (hK : K.work = lists zs ∧ K.shards = m) :
    RNewT w bw K 0 (.returned (.tuple #[.pointer (some ⟨R, 0, none⟩), .int .i64 0])) wr := by
  have hl : K.work.length = zs.length := by rw [hK.1]; simp [lists]
  obtain ⟨g0, g1, g2, g3⟩ := h.ge
  refine .inr ⟨rfl, R, ⟨bl, bn, bh, .slice none 0 0, .slice none 0 0, wp, wc, zs⟩, rfl, ⟨?_, ?_, ?_, ?_, World.ownsRow_nil _ _ _ _, World.ownsRow_nil _ _ _ _, hA.below h.b, hK.1, ⟨by show bw ≤ R; omega, by show bw ≤ bl; omega, by show bw ≤ bn; omega, by show bw ≤ bh; omega⟩, h.ne.1, hwl, by simp [Sh.start], by simp [Sh.start], by simp [Sh.start]⟩, ?_, h.b⟩
  · rw [h.head]; unfold headR; rw [hl, hK.2]; rfl
  · rw [h.locks]; unfold locksO Sh.start; simp [hK.2, intV]
  · rw [h.nexts]; unfold nextsO Sh.start; simp [hl, natV]
  · rw [h.hands]; unfold handsO Sh.start; rw [hl]
  · intro b hb
    rcases hb with rfl | rfl | rfl | rfl | hb | hb
    · exact g0
    · exact g1
    · exact g2
    · exact g3
    · cases hb
    · cases hb
end Go.Proofs.Ytabkmdhkfbcldaa
namespace Go.Proofs.Ytabkmdhkfbcldaa
open Go.RowKit
variable {W W' w w' : World} {base r : Nat} {K : Wk} {S : Sh} {B : RB}

section
variable (u : World) (A B' C T : Obj)
theorem four0 : ((((u.alloc A).alloc B').alloc C).alloc T).drew.heap[u.heap.size]? = some A :=
  (Below.heap_alloc _ _ _ (by simp; omega)).trans ((Below.heap_alloc _ _ _ (by simp; omega)).trans ((Below.heap_alloc _ _ _ (by simp)).trans (heap_alloc_new u A)))
theorem four1 : ((((u.alloc A).alloc B').alloc C).alloc T).drew.heap[u.heap.size + 1]? = some B' :=
  (Below.heap_alloc _ _ _ (by simp)).trans ((Below.heap_alloc _ _ _ (by simp)).trans (heap_newAt _ _ _ (by simp)))
theorem four2 : ((((u.alloc A).alloc B').alloc C).alloc T).drew.heap[u.heap.size + 1 + 1]? = some C :=
  (Below.heap_alloc _ _ _ (by simp)).trans (heap_newAt _ _ _ (by simp))
theorem four3 : ((((u.alloc A).alloc B').alloc C).alloc T).drew.heap[u.heap.size + 1 + 1 + 1]? = some T := heap_newAt _ _ _ (by simp)
theorem four_below : Below u.heap.size u ((((u.alloc A).alloc B').alloc C).alloc T).drew := ((((Below.refl _ _).alloc (Nat.le_refl _) _).alloc (by simp) _).alloc (by simp; omega) _).alloc (by simp; omega) _ |>.drew
end
theorem RNJ.made {zs : List AkR} {wp : Option Addr} {cw m R bl bn bh : Nat} {X wx : World} (hbx : Below w.heap.size w wx) (hb : Below wx.heap.size wx X) (hT : X.heap[R]? = some (.cells #[.int .i64 m, .slice (some ⟨bl, 0, none⟩) m m, .slice none 0 0, .slice wp zs.length cw, .slice (some ⟨bn, 0, none⟩) zs.length zs.length, .slice (some ⟨bh, 0, none⟩) zs.length zs.length, .slice none 0 0, .int .i64 0] 84 (0, 0)))
    (hL : X.heap[bl]? = some (.cells (Array.replicate m (Value.int .i64 0)) 3 (0, 0))) (hN : X.heap[bn]? = some (.cells (Array.replicate zs.length (Value.int .i64 0)) 3 (0, 0))) (hH : X.heap[bh]? = some (.cells ((List.replicate zs.length hn0).flatMap Hn.cells).toArray 93 (0, 0)))
    (h1 : wx.heap.size ≤ R) (h2 : wx.heap.size ≤ bl) (h3 : wx.heap.size ≤ bn) (h4 : wx.heap.size ≤ bh) (h5 : bl ≠ bn) (h6 : bl ≠ R) (h7 : bl ≠ bh) : RNJ w zs wp cw m R bl bn bh 0 X := by
  have hz := hbx.size
  exact ⟨hT, hL, hN, hH, hbx.trans (hb.mono hz), ⟨by omega, by omega, by omega, by omega⟩, h5, h6, h7⟩
set_option maxRecDepth 40000 in
set_option maxHeartbeats 4000000 in
theorem rnewT_walk (wp : Option Addr) (cw : Nat) (zs : List AkR) (w : World) (hA : AskIs w wp cw zs) (hq : ∀ z ∈ zs, z.2.2.length ≤ 4398046511104) (bw : Nat) (hbw : bw ≤ w.heap.size) (hwl : AsksLt bw wp zs) (n : Int) (K : Wk) (hK : NewK zs n K) (h0 : ¬ (n < 1 ∨ 256 < n ∨ zs.length < 1 ∨ 64 < zs.length)) :
    Calls Try.prog 14 #[.int .i64 n, .slice wp zs.length cw] w (RNewT w bw K (newTE n (lists zs))) := by
  have hll : (lists zs).length = zs.length := by simp [lists]
  have HE : Hid (newTE n (lists zs) = if 1024 < totA (lists zs) then 3 else if (lists zs).any (·.any akBad) then 270 else 0) := by
    unfold Hid newTE; rw [hll, if_neg h0]
  have hn1 : 1 ≤ n := by omega
  have hn2 : n ≤ 256 := by omega
  have hz1 : 1 ≤ zs.length := by omega
  have hz2 : zs.length ≤ 64 := by omega
  have g1 : ¬ n < 1 := by omega
  have g2 : ¬ 256 < n := by omega
  have g3 : ¬ ((zs.length : Int) < 1) := by omega
  have g4 : ¬ (64 < (zs.length : Int)) := by omega
  have HA := hid hA
  have HWL := hid (And.intro hbw hwl)
  have HKK := hid hK
  have HRT := hid (rtotal wp cw zs hA hq)
  have hcap : capR zs zs.length = min (totA (lists zs)) 1025 := by
    rw [capR_is zs _ (Nat.le_refl _), List.take_of_length_le (by rw [hll]; exact Nat.le_refl _)]
  rw [hcap] at HRT
  obtain ⟨b, o, rfl, hbl, hcell⟩ := akS_at hA (by omega)
  have HC := hid hcell
  have HLL := hid hll
  have HQ := hid hq
  clear hA hK hcell hll h0 hcap hq hbw hwl
  by_cases hbig : 1024 < totA (lists zs)
  · have HE3 : Hid (newTE n (lists zs) = 3) := by unfold Hid; rw [HE.out, if_pos hbig]
    rw [show min (totA (lists zs)) 1025 = 1025 by omega] at HRT
    rw [HE3.out]
    clear HE HC
    go_enter Try.func14, Try.ntmps14
    go_wp2_with (go_at_call 38; (with_reducible refine HRT.out.mono ?_); rintro e w2 ⟨rfl, hw2⟩; subst hw2)
    go_ret2
    exact .inl ⟨by omega, rfl, Below.refl _ _⟩
  · have HE2 : Hid (newTE n (lists zs) = if (lists zs).any (·.any akBad) then 270 else 0) := by unfold Hid; rw [HE.out, if_neg hbig]
    rw [show min (totA (lists zs)) 1025 = totA (lists zs) by omega] at HRT
    obtain ⟨tt, htt⟩ : ∃ tt, tt = totA (lists zs) := ⟨_, rfl⟩
    rw [← htt] at HRT hbig
    have hbI : ¬ (1024 < (tt : Int)) := by omega
    clear HE htt
    obtain ⟨er, her⟩ : ∃ er, er = newTE n (lists zs) := ⟨_, rfl⟩
    rw [← her] at HE2 ⊢
    clear her
    go_enter Try.func14, Try.ntmps14
    go_wp2_with (go_at_call 38; (with_reducible refine HRT.out.mono ?_); rintro e w2 ⟨rfl, hw2⟩; subst hw2)
    clear HRT hbI hbig
    go_loopw [6] (fun i wx => ∃ k : Nat, k ≤ zs.length ∧ i = .int .i64 k ∧ (∀ l ∈ (lists zs).take k, l.any akBad = false) ∧ Below w.heap.size w wx) (fun i _ => zs.length - (intOf i).toNat)
    case atStart => exact ⟨0, by omega, rfl, fun l hl => (by simp at hl), Below.refl _ _⟩
    case round =>
      rename World => wx
      obtain ⟨k, hk, rfl, hok, hbx⟩ := hrel
      have HOK := hid hok
      have HBX := hid hbx
      clear hok hbx
      by_cases hlt : k < zs.length
      · have hkI : (k : Int) < zs.length := by omega
        have hck0 := HC.out k hlt
        have HZK := hid (HA.out.each _ (List.getElem_mem hlt))
        have hqk := HQ.out _ (List.getElem_mem hlt)
        have HNK : Hid (zs[k].2.2.any akBad = false → ∀ l ∈ (lists zs).take (k + 1), l.any akBad = false) := fun hg l hl => by
          rw [List.take_add_one, List.getElem?_eq_getElem (by rw [HLL.out]; exact hlt)] at hl
          rcases List.mem_append.1 hl with h | h
          · exact HOK.out l h
          · have e : l = zs[k].2.2 := by simpa [lists] using h
            rw [e]; exact hg
        have HZM : Hid (zs[k].2.2 ∈ lists zs) := List.mem_map.2 ⟨_, List.getElem_mem hlt, rfl⟩
        generalize zs[k] = z at *
        obtain ⟨zp, zc, l⟩ := z
        unfold akS at hck0
        dsimp only at hck0 HZK HNK HZM hqk
        have hck : wx.cell? ⟨b, o + k, none⟩ = some (.slice zp l.length zc) := (HBX.out.cell (p := ⟨b, o + k, none⟩) hbl).trans hck0
        have HCK := hid hck
        have HRW := hid ((HZK.out.2.1).below HBX.out)
        have hblx : b < wx.heap.size := by have := HBX.out.size; omega
        clear hck0
        go_wp2_with fail
        go_loopw [7] (fun i wy => ∃ j : Nat, j ≤ l.length ∧ (l.take j).any akBad = false ∧ i = .int .i64 j ∧ Below wx.heap.size wx wy) (fun i _ => l.length - (intOf i).toNat)
        case atStart => exact ⟨0, by omega, by simp, rfl, Below.refl _ _⟩
        case round =>
          rename World => wy
          obtain ⟨j, hj, hany, rfl, hby⟩ := hrel
          have HBY := hid hby
          have hcky : wy.cell? ⟨b, o + k, none⟩ = some (.slice zp l.length zc) := (hby.cell (p := ⟨b, o + k, none⟩) hblx).trans hck
          clear hby hck
          by_cases hjl : j < l.length
          · have hjI : (j : Int) < l.length := by omega
            obtain ⟨bb, oo, rfl, hbb, -⟩ := HZK.out.2.1.at (by have := flat_len Ak.cells 3 (fun _ => rfl) l; omega)
            obtain ⟨r0, r1, r2⟩ := ak_atR (HRW.out.below HBY.out) j hjl
            have HAS := hid (any_take_succ l j hjl)
            have HAM := hid (any_mem j hjl)
            have HBAD : Hid (l.any akBad = true → er = 270) := fun h => by
              rw [HE2.out, if_pos (List.any_eq_true.2 ⟨l, HZM.out, h⟩)]
            generalize l[j] = ak at *
            obtain ⟨kd, ky, av⟩ := ak
            dsimp only at r0 r1 r2
            have HBW : Hid (Below w.heap.size w wy) := HBX.out.trans (HBY.out.mono HBX.out.size)
            by_cases b1 : kd < 1
            · have b1' : decide (kd < 1) = true := decide_eq_true b1
              have HB : Hid (er = 270) := HBAD.out (HAM.out (by unfold akBad; simp [b1]))
              go_wp2_with fail
              go_ret2
              rw [HB.out]
              exact .inl ⟨by omega, rfl, HBW.out.alloc HBW.out.size _⟩
            · have b1' : decide (kd < 1) = false := decide_eq_false b1
              by_cases b2 : 3 < kd
              · have b2' : decide (3 < kd) = true := decide_eq_true b2
                have HB : Hid (er = 270) := HBAD.out (HAM.out (by unfold akBad; simp [b2]))
                go_wp2_with fail
                go_ret2
                rw [HB.out]
                exact .inl ⟨by omega, rfl, HBW.out.alloc HBW.out.size _⟩
              · have b2' : decide (3 < kd) = false := decide_eq_false b2
                by_cases b3 : kd = 1
                · have b3' : (kd != 1) = false := by simp [b3]
                  have HG : Hid (akBad ⟨kd, ky, av⟩ = false) := by unfold Hid akBad; simp [b3]
                  clear b1 b2 b3
                  go_wp2_with fail
                  exact ⟨⟨j + 1, by omega, by rw [HAS.out, hany, HG.out]; rfl, by go_num, HBY.out.alloc HBY.out.size _⟩, by simp [intOf]; omega⟩
                · have b3' : (kd != 1) = true := by simp [b3]
                  by_cases b4 : av = 0
                  · have b4' : (av != 0) = false := by simp [b4]
                    have HG : Hid (akBad ⟨kd, ky, av⟩ = false) := by unfold Hid akBad; simp [b4]; omega
                    clear b1 b2 b3 b4
                    go_wp2_with fail
                    exact ⟨⟨j + 1, by omega, by rw [HAS.out, hany, HG.out]; rfl, by go_num, HBY.out.alloc HBY.out.size _⟩, by simp [intOf]; omega⟩
                  · have b4' : (av != 0) = true := by simp [b4]
                    have HB : Hid (er = 270) := HBAD.out (HAM.out (by unfold akBad; simp [b3, b4]))
                    clear b1 b2 b3 b4
                    go_wp2_with fail
                    go_ret2
                    rw [HB.out]
                    exact .inl ⟨by omega, rfl, HBW.out.alloc HBW.out.size _⟩
          · have hje : j = l.length := by omega
            subst hje
            rw [List.take_of_length_le (Nat.le_refl _)] at hany
            have HNY := hid (HNK.out hany)
            go_wp2_with fail
            exact ⟨⟨k + 1, by omega, by go_num, HNY.out, HBX.out.trans (HBY.out.mono HBX.out.size)⟩, by simp [intOf]; omega⟩
      · have hke : k = zs.length := by omega
        subst hke
        have HE0 : Hid (er = 0) := by
          unfold Hid
          rw [HE2.out, if_neg]
          rw [Bool.not_eq_true, List.any_eq_false]
          intro l hl
          have h1 := HOK.out l (by rw [List.take_of_length_le (by rw [HLL.out]; exact Nat.le_refl _)]; exact hl)
          rw [h1]; simp
        obtain ⟨m, hm⟩ : ∃ m : Nat, n = m := ⟨n.toNat, by omega⟩
        subst hm
        have hKs : K.shards = m := by have := HKK.out.2; omega
        have k1 := fun u => mkI u m (by omega)
        have k2 := fun u => mkI u zs.length (by omega)
        have k3 := fun u => mkH u zs.length hz2
        go_upto_region 14 with fail
        go_cut [9] (fun v wy => ∃ R bl bn bh, v = .pointer (some ⟨R, 0, none⟩) ∧ RNJ w zs (some ⟨b, o, none⟩) cw m R bl bn bh 0 wy)
        case first =>
          go_region
          all_goals
            go_wp2_with fail
            go_meet
            first
            | exact ⟨_, wx.heap.size, wx.heap.size + 1, wx.heap.size + 1 + 1, rfl, RNJ.made HBX.out (four_below _ _ _ _ _) (four3 _ _ _ _ _) (four0 _ _ _ _ _) (four1 _ _ _ _ _) (four2 _ _ _ _ _) (by omega) (by omega) (by omega) (by omega) (by omega) (by omega) (by omega)⟩
            | exact ⟨_, wx.heap.size, wx.heap.size + 1 + 1, wx.heap.size + 1, rfl, RNJ.made HBX.out (four_below _ _ _ _ _) (four3 _ _ _ _ _) (four0 _ _ _ _ _) (four2 _ _ _ _ _) (four1 _ _ _ _ _) (by omega) (by omega) (by omega) (by omega) (by omega) (by omega) (by omega)⟩
            | exact ⟨_, wx.heap.size + 1, wx.heap.size, wx.heap.size + 1 + 1, rfl, RNJ.made HBX.out (four_below _ _ _ _ _) (four3 _ _ _ _ _) (four1 _ _ _ _ _) (four0 _ _ _ _ _) (four2 _ _ _ _ _) (by omega) (by omega) (by omega) (by omega) (by omega) (by omega) (by omega)⟩
            | exact ⟨_, wx.heap.size + 1, wx.heap.size + 1 + 1, wx.heap.size, rfl, RNJ.made HBX.out (four_below _ _ _ _ _) (four3 _ _ _ _ _) (four1 _ _ _ _ _) (four2 _ _ _ _ _) (four0 _ _ _ _ _) (by omega) (by omega) (by omega) (by omega) (by omega) (by omega) (by omega)⟩
            | exact ⟨_, wx.heap.size + 1 + 1, wx.heap.size, wx.heap.size + 1, rfl, RNJ.made HBX.out (four_below _ _ _ _ _) (four3 _ _ _ _ _) (four2 _ _ _ _ _) (four0 _ _ _ _ _) (four1 _ _ _ _ _) (by omega) (by omega) (by omega) (by omega) (by omega) (by omega) (by omega)⟩
            | exact ⟨_, wx.heap.size + 1 + 1, wx.heap.size + 1, wx.heap.size, rfl, RNJ.made HBX.out (four_below _ _ _ _ _) (four3 _ _ _ _ _) (four2 _ _ _ _ _) (four1 _ _ _ _ _) (four0 _ _ _ _ _) (by omega) (by omega) (by omega) (by omega) (by omega) (by omega) (by omega)⟩
        case rest =>
          obtain ⟨R, bl, bn, bh, rfl, hj0⟩ := hcut
          have HJ0 := hid hj0
          clear hj0 k1 k2 k3
          go_wp2_with fail
          go_loopw [10] (fun i wr => ∃ k : Nat, k ≤ m ∧ i = .int .i64 k ∧ RNJ w zs (some ⟨b, o, none⟩) cw m R bl bn bh k wr) (fun i _ => m - (intOf i).toNat)
          case atStart => exact ⟨0, by omega, rfl, HJ0.out⟩
          case round =>
            rename World => wr
            obtain ⟨k, hk, rfl, hj⟩ := hrel
            have HJ := hid hj
            have d1 : wr.cell? ⟨R, 1, none⟩ = some (.slice (some ⟨bl, 0, none⟩) m m) := cell_of_row _ _ 1 _ _ _ hj.head
            clear hj HJ0
            by_cases hlt : k < m
            · have hkI : (k : Int) < m := by omega
              obtain ⟨vx, e1, f1⟩ : ∃ v, wr.cell? ⟨bl, k, none⟩ = some v ∧ wr.frozen? ⟨bl, k, none⟩ = false := by
                have h1 := cell_of_row _ _ k _ _ _ HJ.out.locks
                have hsz : k < (List.replicate k (Value.int .i64 (-1)) ++ List.replicate (m - k) (Value.int .i64 0)).length := by simp; omega
                rw [List.getElem?_toArray, List.getElem?_eq_getElem hsz] at h1
                exact ⟨_, h1, frozen_of_row _ _ _ _ _ HJ.out.locks⟩
              go_wp2_with fail
              exact ⟨⟨k + 1, by omega, by go_num, HJ.out.set hlt⟩, by simp [intOf]; omega⟩
            · have hke : k = m := by omega
              subst hke
              go_wp2_with fail
              refine bodyPost_ret (v := .tuple #[.pointer (some ⟨R, 0, none⟩), .int .i64 0]) (by simp [results, Try.results14, go_sem]) rfl ?_
              rw [HE0.out]
              exact HJ.out.done HA.out HWL.out.1 HWL.out.2 ⟨HKK.out.1, hKs⟩
end Go.Proofs.Ytabkmdhkfbcldaa
namespace Go.Proofs.Ytabkmdhkfbcldaa
open Go.RowKit
variable {W W' w w' : World} {base r : Nat} {K : Wk} {S : Sh} {B : RB}

set_option maxRecDepth 20000 in
theorem rnewT_arg (wp : Option Addr) (wc : Nat) (zs : List AkR) (w : World) (bw : Nat) (n : Int) (K : Wk) (h : n < 1 ∨ 256 < n ∨ zs.length < 1 ∨ 64 < zs.length) :
    Calls Try.prog 14 #[.int .i64 n, .slice wp zs.length wc] w (RNewT w bw K 1) := by
  have hE : Hid ((1 : Int) ≠ 0) := by unfold Hid; omega
  generalize zs.length = q at *
  by_cases h1 : n < 1
  · go_enter Try.func14, Try.ntmps14
    go_wp2
    go_ret2
    exact .inl ⟨hE.out, rfl, Below.refl _ _⟩
  · by_cases h2 : 256 < n
    · go_enter Try.func14, Try.ntmps14
      go_wp2
      go_ret2
      exact .inl ⟨hE.out, rfl, Below.refl _ _⟩
    · by_cases h3 : q < 1
      · have h3I : (q : Int) < 1 := by omega
        go_enter Try.func14, Try.ntmps14
        go_wp2
        go_ret2
        exact .inl ⟨hE.out, rfl, Below.refl _ _⟩
      · have h4 : 64 < q := by omega
        have h4I : (64 : Int) < q := by omega
        have h3I : ¬ (q : Int) < 1 := by omega
        go_enter Try.func14, Try.ntmps14
        go_wp2
        go_ret2
        exact .inl ⟨hE.out, rfl, Below.refl _ _⟩
theorem rnewT_any (wp : Option Addr) (wc : Nat) (zs : List AkR) (w : World) (hA : AskIs w wp wc zs) (hq : ∀ z ∈ zs, z.2.2.length ≤ 4398046511104) (bw : Nat) (hbw : bw ≤ w.heap.size) (hwl : AsksLt bw wp zs) (n : Int) (K : Wk) (hK : ¬ (n < 1 ∨ 256 < n ∨ zs.length < 1 ∨ 64 < zs.length) → NewK zs n K) :
    Calls Try.prog 14 #[.int .i64 n, .slice wp zs.length wc] w (RNewT w bw K (newTE n (lists zs))) := by
  by_cases h : n < 1 ∨ 256 < n ∨ zs.length < 1 ∨ 64 < zs.length
  · have e : newTE n (lists zs) = 1 := by unfold newTE; rw [if_pos (by simpa [lists] using h)]
    rw [e]
    exact rnewT_arg wp wc zs w bw n K h
  · exact rnewT_walk wp wc zs w hA hq bw hbw hwl n K (hK h) h
end Go.Proofs.Ytabkmdhkfbcldaa
namespace Go.Proofs.Ytabkmdhkfbcldaa
open Go.RowKit

def rw0 : Rw := ⟨.empty, 0, false⟩
def ltR (a b : Rw) : Bool := Op.bytesLess a.key.toList b.key.toList
/-- A row put into rows: what is out, and is it in? -/
def insS (x : Rw) (L : List Rw) : Nat → List Rw × Bool
  | 0 => ([], false)
  | j + 1 => if (insS x L j).2 = false ∧ ltR x (L.getD j rw0) = true then ((insS x L j).1 ++ [x] ++ [L.getD j rw0], true) else ((insS x L j).1 ++ [L.getD j rw0], (insS x L j).2)
def insR (x : Rw) (L : List Rw) : List Rw := if (insS x L L.length).2 then (insS x L L.length).1 else (insS x L L.length).1 ++ [x]
def allR (rows : List Rw) : Nat → List Rw
  | 0 => []
  | k + 1 => insR (rows.getD k rw0) (allR rows k)
theorem insS_len (x : Rw) (L : List Rw) : ∀ j, (insS x L j).1.length = j + (if (insS x L j).2 then 1 else 0)
  | 0 => rfl
  | j + 1 => by
    have ih := insS_len x L j
    unfold insS
    by_cases h : (insS x L j).2 = false ∧ ltR x (L.getD j rw0) = true
    · rw [if_pos h]; simp only [List.length_append, List.length_cons, List.length_nil, ih, h.1]; simp
    · rw [if_neg h]; simp only [List.length_append, List.length_cons, List.length_nil, ih]; split <;> omega
theorem insR_len (x : Rw) (L : List Rw) : (insR x L).length = L.length + 1 := by
  have h := insS_len x L L.length
  unfold insR
  by_cases hb : (insS x L L.length).2 = true
  · rw [if_pos hb, h, if_pos hb]
  · rw [if_neg hb, List.length_append, h, if_neg hb]; rfl
theorem allR_len (rows : List Rw) : ∀ k, (allR rows k).length = k
  | 0 => rfl
  | k + 1 => by show (insR _ _).length = _; rw [insR_len, allR_len rows k]
theorem ltR_is (a b : Rw) : ltR a b = decide (a.key.toList < b.key.toList) := by
  unfold ltR; exact bytesLess_eq _ _
def ltK (a b : Rw) : Prop := a.key.toList < b.key.toList
theorem ltK.trans {a b c : Rw} (h1 : ltK a b) (h2 : ltK b c) : ltK a c := List.lt_trans h1 h2
theorem ltK_or {x y : Rw} (h : ¬ ltK x y) (hne : y.key ≠ x.key) : ltK y x := by
  unfold ltK at *
  have h1 : y.key.toList ≤ x.key.toList := List.not_lt.1 h
  rcases List.le_iff_lt_or_eq.1 h1 with h2 | h2
  · exact h2
  · exact absurd (by
      rw [ByteArray.toList_eq, ByteArray.toList_eq] at h2
      cases hy : y.key; cases hx : x.key
      rw [hy, hx] at h2
      simp at h2
      rw [h2]) hne
theorem insS_ok (x : Rw) (L : List Rw) (hL : L.Pairwise ltK) (hx : ∀ y ∈ L, y.key ≠ x.key) : ∀ j, j ≤ L.length →
    ((insS x L j).2 = false → (insS x L j).1 = L.take j ∧ ∀ y ∈ L.take j, ltK y x) ∧ ((insS x L j).2 = true → (insS x L j).1.Perm (x :: L.take j) ∧ (insS x L j).1.Pairwise ltK ∧ ∃ y ∈ L.take j, ltK x y)
  | 0, _ => ⟨fun _ => ⟨rfl, fun y hy => (by cases hy)⟩, fun h => (by cases h)⟩
  | j + 1, hj => by
    obtain ⟨ih1, ih2⟩ := insS_ok x L hL hx j (by omega)
    have hjl : j < L.length := by omega
    have hg : L.getD j rw0 = L[j] := by simp [List.getD_eq_getElem?_getD, hjl]
    have ht : L.take (j + 1) = L.take j ++ [L[j]] := take_succ L j hjl
    have hcross : ∀ a ∈ L.take j, ltK a L[j] := fun a ha => by
      obtain ⟨i, hi, rfl⟩ := List.getElem_of_mem ha
      rw [List.length_take] at hi
      rw [List.getElem_take]
      exact List.pairwise_iff_getElem.1 hL i j (by omega) hjl (by omega)
    have hpw : (L.take j).Pairwise ltK := hL.sublist (List.take_sublist _ _)
    have hlt : ltR x L[j] = true ↔ ltK x L[j] := by rw [ltR_is]; exact decide_eq_true_iff
    unfold insS
    rw [hg, ht]
    by_cases hc : (insS x L j).2 = false ∧ ltR x L[j] = true
    · rw [if_pos hc]
      obtain ⟨e1, e2⟩ := ih1 hc.1
      refine ⟨fun h => (by cases h), fun _ => ⟨?_, ?_, L[j], List.mem_append_right _ (List.mem_singleton.2 rfl), hlt.1 hc.2⟩⟩
      · show (((insS x L j).1 ++ [x]) ++ [L[j]]).Perm _
        rw [e1, List.append_assoc]
        exact List.perm_middle
      · show (((insS x L j).1 ++ [x]) ++ [L[j]]).Pairwise ltK
        rw [e1, List.append_assoc, List.pairwise_append]
        refine ⟨hpw, by simpa using hlt.1 hc.2, fun a ha b hb => ?_⟩
        simp at hb
        rcases hb with rfl | rfl
        · exact e2 a ha
        · exact hcross a ha
    · rw [if_neg hc]
      refine ⟨fun h => ?_, fun h => ?_⟩
      · have h : (insS x L j).2 = false := h
        obtain ⟨e1, e2⟩ := ih1 h
        refine ⟨by show (insS x L j).1 ++ [L[j]] = _; rw [e1], fun y hy => ?_⟩
        rcases List.mem_append.1 hy with hy | hy
        · exact e2 y hy
        · simp at hy; subst hy
          exact ltK_or (fun hl => hc ⟨h, hlt.2 hl⟩) (hx _ (List.getElem_mem hjl))
      · have h : (insS x L j).2 = true := h
        obtain ⟨e1, e2, y0, hy0, hxy⟩ := ih2 h
        refine ⟨?_, ?_, y0, List.mem_append_left _ hy0, hxy⟩
        · show ((insS x L j).1 ++ [L[j]]).Perm _
          exact e1.append_right _
        · show ((insS x L j).1 ++ [L[j]]).Pairwise ltK
          rw [List.pairwise_append]
          refine ⟨e2, by simp, fun a ha b hb => ?_⟩
          simp at hb; subst hb
          rcases List.mem_cons.1 (e1.subset ha) with rfl | ha
          · exact hxy.trans (hcross y0 hy0)
          · exact hcross a ha
theorem insR_ok (x : Rw) (L : List Rw) (hL : L.Pairwise ltK) (hx : ∀ y ∈ L, y.key ≠ x.key) : (insR x L).Perm (x :: L) ∧ (insR x L).Pairwise ltK := by
  obtain ⟨h1, h2⟩ := insS_ok x L hL hx L.length (Nat.le_refl _)
  rw [List.take_length] at h1 h2
  unfold insR
  cases hb : (insS x L L.length).2 with
  | true =>
    obtain ⟨e1, e2, -⟩ := h2 hb
    exact ⟨e1, e2⟩
  | false =>
    obtain ⟨e1, e2⟩ := h1 hb
    rw [if_neg (by simp), e1]
    refine ⟨List.perm_append_comm, ?_⟩
    rw [List.pairwise_append]
    exact ⟨hL, by simp, fun a ha b hb => by simp at hb; subst hb; exact e2 a ha⟩
theorem allR_ok (rows : List Rw) (hn : (rows.map Rw.key).Nodup) : ∀ k, k ≤ rows.length → (allR rows k).Perm (rows.take k) ∧ (allR rows k).Pairwise ltK
  | 0, _ => ⟨by simp [allR], List.Pairwise.nil⟩
  | k + 1, hk => by
    obtain ⟨h1, h2⟩ := allR_ok rows hn k (by omega)
    have hkl : k < rows.length := by omega
    have hg : rows.getD k rw0 = rows[k] := by simp [List.getD_eq_getElem?_getD, hkl]
    have hx : ∀ y ∈ allR rows k, y.key ≠ (rows[k]).key := fun y hy e => by
      obtain ⟨i, hi, rfl⟩ := List.getElem_of_mem (h1.subset hy)
      rw [List.length_take] at hi
      rw [List.getElem_take] at e
      have := (List.getElem_inj (xs := rows.map Rw.key) (i := i) (j := k) (h₀ := by rw [List.length_map]; omega) (h₁ := by rw [List.length_map]; exact hkl) hn).1 (by rw [List.getElem_map, List.getElem_map]; exact e)
      omega
    obtain ⟨p1, p2⟩ := insR_ok (rows[k]) (allR rows k) h2 hx
    show (insR (rows.getD k rw0) (allR rows k)).Perm _ ∧ _
    rw [hg]
    refine ⟨?_, by show (insR (rows.getD k rw0) (allR rows k)).Pairwise ltK; rw [hg]; exact p2⟩
    rw [take_succ rows k hkl]
    exact (p1.trans (h1.cons _)).trans (List.perm_append_comm (l₁ := [rows[k]]))
end Go.Proofs.Ytabkmdhkfbcldaa
namespace Go.Proofs.Ytabkmdhkfbcldaa
open Go.RowKit
variable {W W' w w' : World} {base r : Nat} {K : Wk} {S : Sh} {B : RB}

/-- What the inner loop holds. -/
structure AlI (wx : World) (x : Rw) (L : List Rw) (j : Nat) (ov : Value) (wy : World) : Prop where
  own : wy.ownsRow wx.heap.size 55 3 ov (insS x L j).1.length ((insS x L j).1.flatMap Rw.cells)
  b : Below wx.heap.size wx wy
set_option maxRecDepth 20000 in
set_option maxHeartbeats 4000000 in
theorem rall (h : RIs W base r K S B) (hrl : S.rows.length ≤ 1000000) : Calls Try.prog 29 #[.pointer (some ⟨r, 0, none⟩)] W fun e w' => ∃ p c, e = .returned (.slice p S.rows.length c) ∧ Row w' p ((allR S.rows S.rows.length).flatMap Rw.cells) ∧ Below W.heap.size W w' := by
  obtain ⟨c0, c1, c2, c3, c4, c5, c6, c7⟩ := h.cells
  obtain ⟨p, c, hv, hrow⟩ := own_shape h.rows
  rw [hv] at c2
  have hr := (Array.getElem?_eq_some_iff.1 h.head).1
  have HROW := hid hrow
  clear hv h c0 c1 c3 c4 c5 c6 c7
  generalize S.rows = rows at *
  go_enter Try.func29, Try.ntmps29
  go_wp2_with fail
  go_loopw [3, 4] (fun lv i wx => ∃ (k : Nat) (lp : Option Addr) (lc : Nat), k ≤ rows.length ∧ i = .int .i64 k ∧ lv = .slice lp k lc ∧ Row wx lp ((allR rows k).flatMap Rw.cells) ∧ Below W.heap.size W wx) (fun _ i _ => rows.length - (intOf i).toNat)
  case atStart => exact ⟨0, none, 0, by omega, rfl, rfl, Row.nil _ _, Below.refl _ _⟩
  case round =>
    rename World => wx
    obtain ⟨k, lp, lc, hk, rfl, rfl, hrowL, hbx⟩ := hrel
    have HBX := hid hbx
    have hc2x : wx.cell? ⟨r, 2, none⟩ = some (.slice p rows.length c) := (hbx.cell (p := ⟨r, 2, none⟩) hr).trans c2
    have hrx : r < wx.heap.size := by have := hbx.size; omega
    clear hbx
    by_cases hlt : k < rows.length
    · have hkI : (k : Int) < rows.length := by omega
      obtain ⟨b1, o1, rfl, hb1, -⟩ := hrow.at (by have := flat_len Rw.cells 3 (fun _ => rfl) rows; omega)
      have HRX := hid (hrow.below HBX.out)
      have hg : rows.getD k rw0 = rows[k] := by simp [List.getD_eq_getElem?_getD, hlt]
      have HNX : Hid (allR rows (k + 1) = insR rows[k] (allR rows k)) := by unfold Hid; show insR (rows.getD k rw0) _ = _; rw [hg]
      have HRF := hid (row_fields (hrow.below HBX.out) k hlt)
      have HLL : Hid ((allR rows k).length = k) := allR_len rows k
      obtain ⟨L, hLe⟩ : ∃ L, L = allR rows k := ⟨_, rfl⟩
      rw [← hLe] at hrowL HNX HLL
      obtain ⟨x, hxe⟩ : ∃ x, x = rows[k] := ⟨_, rfl⟩
      rw [← hxe] at HNX HRF
      have HRL := hid hrowL
      have hb1x : b1 < wx.heap.size := by have := HBX.out.size; omega
      clear hg hLe hxe hrowL
      go_wp2_with fail
      go_loopw [5, 6, 7] (fun ov dv i wy => ∃ (j : Nat) (op : Option Addr) (oc : Nat), j ≤ k ∧ i = .int .i64 j ∧ ov = .slice op (insS x L j).1.length oc ∧ dv = .bool (insS x L j).2 ∧ AlI wx x L j (.slice op (insS x L j).1.length oc) wy) (fun _ _ i _ => k - (intOf i).toNat)
      case atStart => exact ⟨0, none, 0, by omega, rfl, rfl, rfl, World.ownsRow_nil _ _ _ _, Below.refl _ _⟩
      case round =>
        rename World => wy
        obtain ⟨j, op, oc, hj, rfl, rfl, rfl, hal⟩ := hrel
        have HAL := hid hal
        have hby := hal.b
        have hil := insS_len x L j
        have hio : (insS x L j).1.length ≤ j + 1 := by rw [hil]; split <;> omega
        clear hal hil
        by_cases hlj : j < k
        · have hjI : (j : Int) < k := by omega
          have hjL : j < L.length := by rw [HLL.out]; exact hlj
          obtain ⟨b2, o2, rfl, hb2, -⟩ := HRL.out.at (by have := flat_len Rw.cells 3 (fun _ => rfl) L; omega)
          have hgj : L.getD j rw0 = L[j] := by simp [List.getD_eq_getElem?_getD, hjL]
          have HFA : Hid (∀ v, Below wx.heap.size wx v → v.cell? ⟨r, 2, none⟩ = some (.slice (some ⟨b1, o1, none⟩) rows.length c) ∧ v.cell? ⟨b1, o1 + k * 3, none⟩ = some (.string x.key) ∧ v.cell? ⟨b1, o1 + k * 3 + 1, none⟩ = some (.int .i64 x.val) ∧ v.cell? ⟨b1, o1 + k * 3 + 2, none⟩ = some (.bool x.told) ∧ v.cell? ⟨b2, o2 + j * 3, none⟩ = some (.string L[j].key) ∧ v.cell? ⟨b2, o2 + j * 3 + 1, none⟩ = some (.int .i64 L[j].val) ∧ v.cell? ⟨b2, o2 + j * 3 + 2, none⟩ = some (.bool L[j].told)) := fun v hb => by
            obtain ⟨q0, q1, q2⟩ := HRF.out
            obtain ⟨y0, y1, y2⟩ := row_fields (HRL.out.below hb) j hjL
            exact ⟨(hb.cell (p := ⟨r, 2, none⟩) hrx).trans hc2x, (hb.cell (p := ⟨b1, o1 + k * 3, none⟩) hb1x).trans q0, (hb.cell (p := ⟨b1, o1 + k * 3 + 1, none⟩) hb1x).trans q1, (hb.cell (p := ⟨b1, o1 + k * 3 + 2, none⟩) hb1x).trans q2, y0, y1, y2⟩
          have HS1 : Hid ((insS x L j).2 = false → ltR x L[j] = true → insS x L (j + 1) = ((insS x L j).1 ++ [x] ++ [L[j]], true)) := fun h1 h2 => by
            conv => lhs; unfold insS
            rw [hgj, if_pos ⟨h1, h2⟩]
          have HS2 : Hid (¬ ((insS x L j).2 = false ∧ ltR x L[j] = true) → insS x L (j + 1) = ((insS x L j).1 ++ [L[j]], (insS x L j).2)) := fun h1 => by
            conv => lhs; unfold insS
            rw [hgj, if_neg h1]
          have HBY := hid hby
          obtain ⟨hc2y, x0, x1, x2, y0, y1, y2⟩ := HFA.out wy hby
          clear hgj hby
          generalize L[j] = y at *
          obtain ⟨ow, how⟩ : ∃ ow, ow = (insS x L j).1 := ⟨_, rfl⟩
          have HOW : Hid (wy.ownsRow wx.heap.size 55 3 (.slice op ow.length oc) ow.length (ow.flatMap Rw.cells)) := by rw [how]; exact HAL.out.own
          rw [← how] at HS1 HS2 hio ⊢
          cases hd : (insS x L j).2 with
          | true =>
            have HS3 := hid (HS2.out (fun h => by rw [hd] at h; cases h.1))
            rw [hd] at HS3
            clear HS1 HS2 hd how HAL
            go_upto_region 10 with fail
            go_quiet (fail)
            obtain ⟨wz, hwz⟩ : ∃ wz, wz = wy.drewN nq := ⟨_, rfl⟩
            have hbz : Below wy.heap.size wy wz := by rw [hwz]; exact below_drewN (Below.refl _ _) _
            rw [← hwz]
            have HBZ : Hid (Below wx.heap.size wx wz) := HBY.out.trans (hbz.mono HBY.out.size)
            have HOZ := hid (own_below HOW.out hbz)
            have hzz := HBZ.out.size
            obtain ⟨e0, e1, e2, e3, e4, e5, e6⟩ := HFA.out wz HBZ.out
            clear hwz hbz x0 x1 x2 y0 y1 y2 hc2y
            go_wp2_with ((with_reducible show wpList _ _ _ (⟨some 57, _, _, _, _, _⟩ :: _) _ _); go_loud (refine wpList_app ERow rfl (.tmp 51) (.tmp 56) rfl wx.heap.size (.slice op ow.length oc) (ow.length) (ow.flatMap Rw.cells) rfl (HOZ.out.alloc _) _ 1 1 (Rw.cells y) rfl rfl (by intro h; cases h) (row_newAt _ _ _ _ rfl) (rw_ones _) (by unfold maxLen; omega) (by omega) (by simp; omega) ?_); intro v7 w7 ho7 hg7 hs7; obtain ⟨q7, c7, rfl, -⟩ := own_shape ho7; have HO7 := hid ho7; have HB7 := hid ((HBZ.out.alloc HBZ.out.size _).grown hg7 (by simp; omega) (fun r e => own_ge HOZ.out r e)); clear ho7 hg7 hs7)
            refine ⟨⟨j + 1, q7, c7, by omega, by go_num, ?_, ?_, ?_⟩, by simp [intOf]; omega⟩
            · rw [HS3.out]; simp
            · rw [HS3.out]
            · refine ⟨?_, HB7.out⟩
              rw [HS3.out]
              have h7 := HO7.out
              simpa using h7
          | false =>
            cases hlx : ltR x y with
            | true =>
              have HS3 := hid (HS1.out hd hlx)
              have hby2 : Op.bytesLess x.key.toList y.key.toList = true := hlx
              clear HS1 HS2 hd how HAL hlx
              go_upto_region 10 with fail
              go_quiet (fail)
              obtain ⟨wz, hwz⟩ : ∃ wz, wz = wy.drewN nq := ⟨_, rfl⟩
              have hbz : Below wy.heap.size wy wz := by rw [hwz]; exact below_drewN (Below.refl _ _) _
              rw [← hwz]
              have HBZ : Hid (Below wx.heap.size wx wz) := HBY.out.trans (hbz.mono HBY.out.size)
              have HOZ := hid (own_below HOW.out hbz)
              have hzz := HBZ.out.size
              obtain ⟨e0, e1, e2, e3, e4, e5, e6⟩ := HFA.out wz HBZ.out
              clear hwz hbz x0 x1 x2 y0 y1 y2 hc2y
              go_wp2_with (first
                | ((with_reducible show wpList _ _ _ (⟨some 50, _, _, _, _, _⟩ :: _) _ _); go_loud (refine wpList_app ERow rfl (.tmp 41) (.tmp 49) rfl wx.heap.size (.slice op ow.length oc) ow.length (ow.flatMap Rw.cells) rfl (HOZ.out.alloc _) _ 1 1 (Rw.cells x) rfl rfl (by intro h; cases h) (row_newAt _ _ _ _ rfl) (rw_ones _) (by unfold maxLen; omega) (by omega) (by simp; omega) ?_); intro v5 w5 ho5 hg5 hs5; obtain ⟨q5, c5, rfl, -⟩ := own_shape ho5; have HO5 := hid ho5; have HB5 := hid ((HBZ.out.alloc HBZ.out.size _).grown hg5 (by simp; omega) (fun r e => own_ge HOZ.out r e)); have hz5 := HB5.out.size; obtain ⟨-, -, -, -, u0, u1, u2⟩ := HFA.out w5 HB5.out; clear ho5 hg5 hs5)
                | ((with_reducible show wpList _ _ _ (⟨some 57, _, _, _, _, _⟩ :: _) _ _); go_loud (refine wpList_app ERow rfl (.tmp 51) (.tmp 56) rfl wx.heap.size (.slice q5 (ow.length + 1) c5) (ow.length + 1) (ow.flatMap Rw.cells ++ Rw.cells x) rfl (HO5.out.alloc _) _ 1 1 (Rw.cells y) rfl rfl (by intro h; cases h) (row_newAt _ _ _ _ rfl) (rw_ones _) (by unfold maxLen; omega) (by omega) (by simp; omega) ?_); intro v7 w7 ho7 hg7 hs7; obtain ⟨q7, c7, rfl, -⟩ := own_shape ho7; have HO7 := hid ho7; have HB7 := hid ((HB5.out.alloc HB5.out.size _).grown hg7 (by simp; omega) (fun r e => own_ge HO5.out r e)); clear ho7 hg7 hs7))
              refine ⟨⟨j + 1, q7, c7, by omega, by go_num, ?_, ?_, ?_⟩, by simp [intOf]; omega⟩
              · rw [HS3.out]; simp
              · rw [HS3.out]
              · refine ⟨?_, HB7.out⟩
                rw [HS3.out]
                have h7 := HO7.out
                simpa using h7
            | false =>
              have HS3 := hid (HS2.out (fun h => by rw [hlx] at h; cases h.2))
              rw [hd] at HS3
              have hby2 : Op.bytesLess x.key.toList y.key.toList = false := hlx
              clear HS1 HS2 hd how HAL hlx
              go_upto_region 10 with fail
              go_quiet (fail)
              obtain ⟨wz, hwz⟩ : ∃ wz, wz = wy.drewN nq := ⟨_, rfl⟩
              have hbz : Below wy.heap.size wy wz := by rw [hwz]; exact below_drewN (Below.refl _ _) _
              rw [← hwz]
              have HBZ : Hid (Below wx.heap.size wx wz) := HBY.out.trans (hbz.mono HBY.out.size)
              have HOZ := hid (own_below HOW.out hbz)
              have hzz := HBZ.out.size
              obtain ⟨e0, e1, e2, e3, e4, e5, e6⟩ := HFA.out wz HBZ.out
              clear hwz hbz x0 x1 x2 y0 y1 y2 hc2y
              go_wp2_with ((with_reducible show wpList _ _ _ (⟨some 57, _, _, _, _, _⟩ :: _) _ _); go_loud (refine wpList_app ERow rfl (.tmp 51) (.tmp 56) rfl wx.heap.size (.slice op ow.length oc) (ow.length) (ow.flatMap Rw.cells) rfl (HOZ.out.alloc _) _ 1 1 (Rw.cells y) rfl rfl (by intro h; cases h) (row_newAt _ _ _ _ rfl) (rw_ones _) (by unfold maxLen; omega) (by omega) (by simp; omega) ?_); intro v7 w7 ho7 hg7 hs7; obtain ⟨q7, c7, rfl, -⟩ := own_shape ho7; have HO7 := hid ho7; have HB7 := hid ((HBZ.out.alloc HBZ.out.size _).grown hg7 (by simp; omega) (fun r e => own_ge HOZ.out r e)); clear ho7 hg7 hs7)
              refine ⟨⟨j + 1, q7, c7, by omega, by go_num, ?_, ?_, ?_⟩, by simp [intOf]; omega⟩
              · rw [HS3.out]; simp
              · rw [HS3.out]
              · refine ⟨?_, HB7.out⟩
                rw [HS3.out]
                have h7 := HO7.out
                simpa using h7
        · have hje : j = k := by omega
          subst hje
          have HI : Hid (insR x L = if (insS x L j).2 then (insS x L j).1 else (insS x L j).1 ++ [x]) := by unfold Hid insR; rw [HLL.out]
          obtain ⟨q0, q1, q2⟩ := HRF.out
          have hc2y : wy.cell? ⟨r, 2, none⟩ = some (.slice (some ⟨b1, o1, none⟩) rows.length c) := (hby.cell (p := ⟨r, 2, none⟩) hrx).trans hc2x
          have x0 := (hby.cell (p := ⟨b1, o1 + j * 3, none⟩) hb1x).trans q0
          have x1 := (hby.cell (p := ⟨b1, o1 + j * 3 + 1, none⟩) hb1x).trans q1
          have x2 := (hby.cell (p := ⟨b1, o1 + j * 3 + 2, none⟩) hb1x).trans q2
          have HBY := hid hby
          have hzy := hby.size
          have HIL := hid (insS_len x L j)
          obtain ⟨ow, how⟩ : ∃ ow, ow = (insS x L j).1 := ⟨_, rfl⟩
          have HOW : Hid (wy.ownsRow wx.heap.size 55 3 (.slice op ow.length oc) ow.length (ow.flatMap Rw.cells)) := by rw [how]; exact HAL.out.own
          rw [← how] at HI HIL hio ⊢
          cases hd : (insS x L j).2 with
          | true =>
            rw [hd] at HI HIL
            have hol : ow.length = j + 1 := HIL.out
            have HOL := hid hol
            clear hd how HAL hby q0 q1 q2 hol
            go_wp2_with fail
            refine ⟨⟨j + 1, op, oc, by omega, by go_num, by rw [HOL.out], ?_, HBX.out.trans (HBY.out.mono HBX.out.size)⟩, by simp [intOf]; omega⟩
            rw [HNX.out, HI.out]
            obtain ⟨pp, cc, e, hr⟩ := own_shape HOW.out
            cases e
            exact hr
          | false =>
            rw [hd] at HI HIL
            have hol : ow.length = j := HIL.out
            have HOL := hid hol
            clear hd how HAL hby q0 q1 q2 hol
            go_wp2_with ((with_reducible show wpList _ _ _ (⟨some 69, _, _, _, _, _⟩ :: _) _ _); go_loud (refine wpList_app ERow rfl (.tmp 60) (.tmp 68) rfl wx.heap.size (.slice op ow.length oc) ow.length (ow.flatMap Rw.cells) rfl (HOW.out.alloc _) _ 1 1 (Rw.cells x) rfl rfl (by intro h; cases h) (row_newAt _ _ _ _ rfl) (rw_ones _) (by unfold maxLen; omega) (by omega) (by simp; omega) ?_); intro v7 w7 ho7 hg7 hs7; obtain ⟨q7, c7, rfl, -⟩ := own_shape ho7; have HO7 := hid ho7; have HB7 := hid ((HBY.out.alloc HBY.out.size _).grown hg7 (by simp; omega) (fun r e => own_ge HOW.out r e)); clear ho7 hg7 hs7)
            refine ⟨⟨j + 1, q7, c7, by omega, by go_num, by rw [HOL.out], ?_, HBX.out.trans (HB7.out.mono HBX.out.size)⟩, by simp [intOf]; omega⟩
            rw [HNX.out, HI.out]
            obtain ⟨pp, cc, e, hr⟩ := own_shape HO7.out
            cases e
            simpa using hr
    · have hke : k = rows.length := by omega
      subst hke
      have HRO := hid hrowL
      clear hrowL
      go_wp2_with fail
      go_ret
      exact ⟨lp, lc, rfl, HRO.out, HBX.out⟩
end Go.Proofs.Ytabkmdhkfbcldaa
