/-
  push, pop and steal of the document's deque, phase by phase (printed by genxr5.py).
-/
import Derived.Test.YtpgdpddmgljpmaaR4
import Derived.Deep.RegionWith
namespace Go.Proofs.Ytpgdpddmgljpmaa
open Go.RowKit
variable {W W' : World} {c : RC} {av : Nat → Value} {R : Dq} {i : Nat} {x : Hd} {s : SS}

theorem RefIs.keep (H : RefIs W c av R) (hk : ∀ b, b < W.heap.size → W'.heap[b]? = W.heap[b]?) (hs : W.heap.size ≤ W'.heap.size) : RefIs W' c av R :=
  ⟨(hk _ (Array.getElem?_eq_some_iff.1 H.rr).1).trans H.rr, (hk _ (Array.getElem?_eq_some_iff.1 H.qq).1).trans H.qq, own_blk H.oo (fun g hg => hk g (own_lt H.oo g hg)), (hk _ (Array.getElem?_eq_some_iff.1 H.hh).1).trans H.hh, (hk _ (Array.getElem?_eq_some_iff.1 H.aa).1).trans H.aa,
    fun i h => own_blk (H.an i h) (fun g hg => hk g (own_lt (H.an i h) g hg)), fun i h => (H.ow i h).blk (fun hne a m c' e => by
      obtain ⟨p, c', e', _, ht⟩ := (H.ow i h).ex
      rw [e] at e'; cases e'
      rcases ht a rfl hne with h | ⟨_, cur, fz, hc⟩
      · exact hk _ (Nat.lt_of_lt_of_le h (Nat.le_trans H.nb H.bs))
      · exact hk _ (Array.getElem?_eq_some_iff.1 hc).1), H.ap, Nat.le_trans H.bs hs, H.br, H.bq, H.bh, H.ba, H.nb⟩
theorem RV.alloc (H : RV W c av R i x s) (o : Obj) : RV (W.alloc o) c av R i x s := ⟨H.is.keep (fun b hb => Below.heap_alloc W o b hb) (by simp), H.at_⟩
theorem cell_set (W : World) (a b : Addr) (v : Value) (h : b.block ≠ a.block) : (W.setCell a v).cell? b = W.cell? b := World.cell?_of_block (Below.heap_setCell W a v b.block h)
theorem cell_set2 (W : World) (b j k : Nat) (v : Value) (h : j ≠ k) : (W.setCell ⟨b, j, none⟩ v).cell? ⟨b, k, none⟩ = W.cell? ⟨b, k, none⟩ := World.cell?_setCell_other _ _ _ _ (fun e => h (by injection e))
theorem RPost.ret {s' : SS} {e : Ending} (h : RPost W c av R i x s' e W') : e = .returned (.tuple #[]) ∧ ∃ av', RV W' c av' R i x s' ∧ Only (rB c av i) W W' ∧ ∀ j g, (av' j).ownBlock = some g → (av j).ownBlock = some g ∨ W.heap.size ≤ g := h
theorem RPost.more {W0 : World} {s' : SS} {e : Ending} (ho : Only (rB c av i) W0 W) (h : RPost W c av R i x s' e W') : RPost W0 c av R i x s' e W' := by
  obtain ⟨he, av', h1, h2, h3⟩ := h
  exact ⟨he, av', h1, ho.more h2 (fun _ h => h), fun j g hg => (h3 j g hg).imp id (fun h => Nat.le_trans ho.size h)⟩

set_option maxRecDepth 100000 in
set_option maxHeartbeats 2000000 in
theorem rpush1f (H : RV W c av R i x s) (k v : Int) (hlen : R.hs.length ≤ 64) (hf : Fit s) (hat : s.at_ = 1) (hx : s.bottom - s.top = s.pl.length) :
    Calls Try.prog 43 #[.pointer (some ⟨c.r, 0, none⟩), .int .i64 i, .agg #[.int .i64 k, .int .i64 v]] W (RPost W c av R i x (rend { s with b := s.bottom } false 0)) := by
  obtain ⟨t1, b1, c1, b2, p1, p2, l1⟩ := hf
  have hatI : (i : Int) < R.hs.length := by have := H.at_; omega
  have hne := H.ne
  obtain ⟨ne1, ne2, ne3, ne4, ne5, ne6⟩ := hne
  obtain ⟨lt1, lt2, lt3, lt4⟩ := H.lt
  have hfb : (IntKind.i64.wrap (s.bottom - s.top) == (s.pl.length : Int)) = true := by rw [wrap_i64, wrap_small (by omega) (by omega)]; simp [hx]
  have hfb2 : (s.bottom - s.top == (s.pl.length : Int)) = true := by simp [hx]
  clear hx
  have hC := H.cells
  have r0 := hC.r0
  have r1 := hC.r1
  have r2 := hC.r2
  have r3 := hC.r3
  have r5 := hC.r5
  have h0 := hC.h0
  have h1 := hC.h1
  have h2 := hC.h2
  have h3 := hC.h3
  have h4 := hC.h4
  have fr1 := hC.fr 1
  have fr2 := hC.fr 2
  have fh1 := hC.fh (i * 5 + 1)
  have fh2 := hC.fh (i * 5 + 2)
  have fh3 := hC.fh (i * 5 + 3)
  have fh4 := hC.fh (i * 5 + 4)
  clear hC
  rw [hat] at h0
  clear hat
  go_enter Try.func43, Try.ntmps43
  go_upto_region 7 with (fail)
  clear r0 r1 r2 r3 r5 h0 h1 h2 h3 h4 fr1 fr2 fh1 fh2 fh3 fh4
  obtain ⟨W1, hwW1⟩ : ∃ w1, w1 = (W.setCell ⟨c.HB, i * 5 + 2, none⟩ (.int .i64 s.bottom)).alloc (.cells #[.int .i64 k, .int .i64 v] 27) := ⟨_, rfl⟩
  have H_W1 : RV W1 c av R i x { s with b := s.bottom } := by rw [hwW1]; exact (H.setB _).alloc _
  have O_W1 : Only (rB c av i) W W1 := by rw [hwW1]; exact ((((Only.refl W).wide (fun _ h => by cases h)).set ⟨c.HB, i * 5 + 2, none⟩ _ (.inl (by simp [rB]))).alloc _)
  rw [← hwW1]
  clear hwW1
  obtain ⟨lt1, lt2, lt3, lt4⟩ := H_W1.lt
  have hC := H_W1.cells
  have r0 := hC.r0
  have r1 := hC.r1
  have r2 := hC.r2
  have r3 := hC.r3
  have r5 := hC.r5
  have h0 := hC.h0
  have h1 := hC.h1
  have h2 := hC.h2
  have h3 := hC.h3
  have h4 := hC.h4
  have fr1 := hC.fr 1
  have fr2 := hC.fr 2
  have fh1 := hC.fh (i * 5 + 1)
  have fh2 := hC.fh (i * 5 + 2)
  have fh3 := hC.fh (i * 5 + 3)
  have fh4 := hC.fh (i * 5 + 4)
  clear hC
  go_quiet (fail)
  have HQ := H_W1.drewN nq
  have OQ := O_W1.drewN nq
  go_wp2_with (go_at_call 57; refine (end_ref HQ false 0 hlen l1).mono ?_; rintro e w9 hp9; obtain ⟨rfl, hq9⟩ := RPost.ret hp9; have HP9 := hid hq9; clear hq9 hp9)
  go_end0
  exact RPost.more OQ ⟨rfl, HP9.out⟩

set_option maxRecDepth 100000 in
set_option maxHeartbeats 2000000 in
theorem rpush1 (H : RV W c av R i x s) (k v : Int) (hlen : R.hs.length ≤ 64) (hf : Fit s) (hat : s.at_ = 1) (hx : ¬ s.bottom - s.top = s.pl.length) :
    Calls Try.prog 43 #[.pointer (some ⟨c.r, 0, none⟩), .int .i64 i, .agg #[.int .i64 k, .int .i64 v]] W (RPost W c av R i x { s with b := s.bottom }) := by
  obtain ⟨t1, b1, c1, b2, p1, p2, l1⟩ := hf
  have hatI : (i : Int) < R.hs.length := by have := H.at_; omega
  have hne := H.ne
  obtain ⟨ne1, ne2, ne3, ne4, ne5, ne6⟩ := hne
  obtain ⟨lt1, lt2, lt3, lt4⟩ := H.lt
  have hfb : (IntKind.i64.wrap (s.bottom - s.top) == (s.pl.length : Int)) = false := by rw [wrap_i64, wrap_small (by omega) (by omega)]; simp [hx]
  have hfb2 : (s.bottom - s.top == (s.pl.length : Int)) = false := by simp [hx]
  clear hx
  have hC := H.cells
  have r0 := hC.r0
  have r1 := hC.r1
  have r2 := hC.r2
  have r3 := hC.r3
  have r5 := hC.r5
  have h0 := hC.h0
  have h1 := hC.h1
  have h2 := hC.h2
  have h3 := hC.h3
  have h4 := hC.h4
  have fr1 := hC.fr 1
  have fr2 := hC.fr 2
  have fh1 := hC.fh (i * 5 + 1)
  have fh2 := hC.fh (i * 5 + 2)
  have fh3 := hC.fh (i * 5 + 3)
  have fh4 := hC.fh (i * 5 + 4)
  clear hC
  rw [hat] at h0
  clear hat
  go_enter Try.func43, Try.ntmps43
  go_upto_region 7 with (fail)
  clear r0 r1 r2 r3 r5 h0 h1 h2 h3 h4 fr1 fr2 fh1 fh2 fh3 fh4
  obtain ⟨W1, hwW1⟩ : ∃ w1, w1 = (W.setCell ⟨c.HB, i * 5 + 2, none⟩ (.int .i64 s.bottom)).alloc (.cells #[.int .i64 k, .int .i64 v] 27) := ⟨_, rfl⟩
  have H_W1 : RV W1 c av R i x { s with b := s.bottom } := by rw [hwW1]; exact (H.setB _).alloc _
  have O_W1 : Only (rB c av i) W W1 := by rw [hwW1]; exact ((((Only.refl W).wide (fun _ h => by cases h)).set ⟨c.HB, i * 5 + 2, none⟩ _ (.inl (by simp [rB]))).alloc _)
  rw [← hwW1]
  clear hwW1
  obtain ⟨lt1, lt2, lt3, lt4⟩ := H_W1.lt
  have hC := H_W1.cells
  have r0 := hC.r0
  have r1 := hC.r1
  have r2 := hC.r2
  have r3 := hC.r3
  have r5 := hC.r5
  have h0 := hC.h0
  have h1 := hC.h1
  have h2 := hC.h2
  have h3 := hC.h3
  have h4 := hC.h4
  have fr1 := hC.fr 1
  have fr2 := hC.fr 2
  have fh1 := hC.fh (i * 5 + 1)
  have fh2 := hC.fh (i * 5 + 2)
  have fh3 := hC.fh (i * 5 + 3)
  have fh4 := hC.fh (i * 5 + 4)
  clear hC
  go_quiet (fail)
  have HQ := H_W1.drewN nq
  have OQ := O_W1.drewN nq
  go_wp2
  go_end0
  exact ⟨rfl, av, HQ, OQ, fun _ _ h => .inl h⟩

set_option maxRecDepth 100000 in
set_option maxHeartbeats 2000000 in
theorem rpush2 (H : RV W c av R i x s) (k v : Int) (hlen : R.hs.length ≤ 64) (hf : Fit s) (hat : s.at_ = 2) (h0b : 0 ≤ s.b) :
    Calls Try.prog 43 #[.pointer (some ⟨c.r, 0, none⟩), .int .i64 i, .agg #[.int .i64 k, .int .i64 v]] W (RPost W c av R i x { s with pl := putP s.pl s.b v }) := by
  obtain ⟨t1, b1, c1, b2, p1, p2, l1⟩ := hf
  have hatI : (i : Int) < R.hs.length := by have := H.at_; omega
  have hne := H.ne
  obtain ⟨ne1, ne2, ne3, ne4, ne5, ne6⟩ := hne
  obtain ⟨lt1, lt2, lt3, lt4⟩ := H.lt
  have hsl := slotR_lt (n := s.pl.length) (k := s.b) p1 (by omega)
  have hcq : W.cell? ⟨c.Q, slotR s.pl.length (s.b), none⟩ = some (i64 s.pl[slotR s.pl.length (s.b)]) := H.is.qq.cell (slotR s.pl.length (s.b)) hsl
  have fq := H.cells.fq (slotR s.pl.length (s.b))
  have HPLC := hid (fun (W2 : World) (h : W2.cell? ⟨c.r, 0, none⟩ = some (.int .i64 s.pl.length)) => place_ref (W := W2) s.pl.length c.r (s.b) p1 p2 (by omega) (by omega) h)
  have HGET : Hid (s.pl[slotR s.pl.length (s.b)] = getR s.pl (s.b)) := by show _ = _; unfold getR; rw [List.getD_eq_getElem?_getD, List.getElem?_eq_getElem hsl]; rfl
  have hslot : slotR s.pl.length s.b = slot s.pl s.b := by unfold slot; exact slotR_pos p1 h0b
  have HPUT : Hid (putP s.pl s.b v = s.pl.set (slotR s.pl.length s.b) v) := by show _ = _; rw [hslot]; rfl
  clear hslot
  have hC := H.cells
  have r0 := hC.r0
  have r1 := hC.r1
  have r2 := hC.r2
  have r3 := hC.r3
  have r5 := hC.r5
  have h0 := hC.h0
  have h1 := hC.h1
  have h2 := hC.h2
  have h3 := hC.h3
  have h4 := hC.h4
  have fr1 := hC.fr 1
  have fr2 := hC.fr 2
  have fh1 := hC.fh (i * 5 + 1)
  have fh2 := hC.fh (i * 5 + 2)
  have fh3 := hC.fh (i * 5 + 3)
  have fh4 := hC.fh (i * 5 + 4)
  clear hC
  rw [hat] at h0
  clear hat
  go_enter Try.func43, Try.ntmps43
  go_upto_region 10 with (fail)
  clear r0 r1 r2 r3 r5 h0 h1 h2 h3 h4 fr1 fr2 fh1 fh2 fh3 fh4
  have HOPC : Hid ((W.alloc (.cells #[.int .i64 k, .int .i64 v] 27)).cell? ⟨W.heap.size, 1, none⟩ = some (.int .i64 v)) := cell_of_row _ _ _ _ _ _ (heap_alloc_new W _)
  have HOPN : Hid (W.heap.size ≠ c.Q) := by show _ ≠ _; omega
  obtain ⟨W1, hwW1⟩ : ∃ w1, w1 = W.alloc (.cells #[.int .i64 k, .int .i64 v] 27) := ⟨_, rfl⟩
  have H_W1 : RV W1 c av R i x s := by rw [hwW1]; exact H.alloc _
  have O_W1 : Only (rB c av i) W W1 := by rw [hwW1]; exact ((Only.refl W).wide (fun _ h => by cases h)).alloc _
  rw [← hwW1] at HOPC ⊢
  clear hwW1
  obtain ⟨lt1, lt2, lt3, lt4⟩ := H_W1.lt
  have opc : W1.cell? ⟨W.heap.size, 1, none⟩ = some (.int .i64 v) := HOPC.out
  have hopn : W.heap.size ≠ c.Q := HOPN.out
  have hC := H_W1.cells
  have r0 := hC.r0
  have r1 := hC.r1
  have r2 := hC.r2
  have r3 := hC.r3
  have r5 := hC.r5
  have h0 := hC.h0
  have h1 := hC.h1
  have h2 := hC.h2
  have h3 := hC.h3
  have h4 := hC.h4
  have fr1 := hC.fr 1
  have fr2 := hC.fr 2
  have fh1 := hC.fh (i * 5 + 1)
  have fh2 := hC.fh (i * 5 + 2)
  have fh3 := hC.fh (i * 5 + 3)
  have fh4 := hC.fh (i * 5 + 4)
  clear hC
  have hcq1 := H_W1.is.qq.cell (slotR s.pl.length s.b) hsl
  have fq1 := H_W1.cells.fq (slotR s.pl.length s.b)
  dsimp only [Dq.upd] at hcq1
  have hslI : (slotR s.pl.length s.b : Int) < s.pl.length := by omega
  generalize slotR s.pl.length s.b = sl at *
  go_region_held3 (fun w2 => w2.cell? ⟨c.r, 3, none⟩ = some (.slice (some ⟨c.Q, 0, none⟩) s.pl.length c.qc) ∧ w2.cell? ⟨c.HB, i * 5 + 2, none⟩ = some (.int .i64 s.b) ∧ w2.cell? ⟨W.heap.size, 1, none⟩ = some (.int .i64 v)) (first | exact ⟨r3, h2, opc⟩ | exact ⟨(cell_set _ _ _ _ ne3).trans r3, (cell_set _ _ _ _ ne5).trans h2, (cell_set _ _ _ _ hopn).trans opc⟩)
      (first | (go_at_call 46; refine (HPLC.out _ (by exact r0)).mono ?_; rintro e w2 ⟨rfl, q, rfl⟩))
  go_wp2_with fail
  go_end0
  exact ⟨rfl, av, by rw [HPUT.out]; exact (H_W1.drewN _).setPl sl v, (O_W1.drewN _).set ⟨c.Q, sl, none⟩ _ (.inl (by simp [rB])), fun _ _ h => .inl h⟩

set_option maxRecDepth 100000 in
set_option maxHeartbeats 2000000 in
theorem rpush3 (H : RV W c av R i x s) (k v : Int) (hlen : R.hs.length ≤ 64) (hf : Fit s) (hat : s.at_ = 3) :
    Calls Try.prog 43 #[.pointer (some ⟨c.r, 0, none⟩), .int .i64 i, .agg #[.int .i64 k, .int .i64 v]] W (RPost W c av R i x (rend { s with bottom := s.b + 1 } true v)) := by
  obtain ⟨t1, b1, c1, b2, p1, p2, l1⟩ := hf
  have hatI : (i : Int) < R.hs.length := by have := H.at_; omega
  have hne := H.ne
  obtain ⟨ne1, ne2, ne3, ne4, ne5, ne6⟩ := hne
  obtain ⟨lt1, lt2, lt3, lt4⟩ := H.lt
  have hC := H.cells
  have r0 := hC.r0
  have r1 := hC.r1
  have r2 := hC.r2
  have r3 := hC.r3
  have r5 := hC.r5
  have h0 := hC.h0
  have h1 := hC.h1
  have h2 := hC.h2
  have h3 := hC.h3
  have h4 := hC.h4
  have fr1 := hC.fr 1
  have fr2 := hC.fr 2
  have fh1 := hC.fh (i * 5 + 1)
  have fh2 := hC.fh (i * 5 + 2)
  have fh3 := hC.fh (i * 5 + 3)
  have fh4 := hC.fh (i * 5 + 4)
  clear hC
  rw [hat] at h0
  clear hat
  go_enter Try.func43, Try.ntmps43
  go_upto_region 4 with (fail)
  clear r0 r1 r2 r3 r5 h0 h1 h2 h3 h4 fr1 fr2 fh1 fh2 fh3 fh4
  have HOPC : Hid (((W.setCell ⟨c.r, 2, none⟩ (.int .i64 (s.b + 1))).alloc (.cells #[.int .i64 k, .int .i64 v] 27)).cell? ⟨W.heap.size, 1, none⟩ = some (.int .i64 v)) := cell_of_row _ _ _ _ _ _ (heap_alloc_at _ _ _ (by simp))
  obtain ⟨W1, hwW1⟩ : ∃ w1, w1 = (W.setCell ⟨c.r, 2, none⟩ (.int .i64 (s.b + 1))).alloc (.cells #[.int .i64 k, .int .i64 v] 27) := ⟨_, rfl⟩
  have H_W1 : RV W1 c av R i x { s with bottom := s.b + 1 } := by rw [hwW1]; exact (H.setBottom _).alloc _
  have O_W1 : Only (rB c av i) W W1 := by rw [hwW1]; exact ((((Only.refl W).wide (fun _ h => by cases h)).set ⟨c.r, 2, none⟩ _ (.inl (by simp [rB]))).alloc _)
  rw [← hwW1] at HOPC ⊢
  clear hwW1
  obtain ⟨lt1, lt2, lt3, lt4⟩ := H_W1.lt
  have opc := HOPC.out
  go_wp2_with (go_at_call 57; refine (end_ref H_W1 true v hlen l1).mono ?_; rintro e w9 hp9; obtain ⟨rfl, hq9⟩ := RPost.ret hp9; have HP9 := hid hq9; clear hq9 hp9)
  go_end0
  exact RPost.more O_W1 ⟨rfl, HP9.out⟩

set_option maxRecDepth 100000 in
set_option maxHeartbeats 2000000 in
theorem rpop1 (H : RV W c av R i x s) (hlen : R.hs.length ≤ 64) (hf : Fit s) (hat : s.at_ = 1) :
    Calls Try.prog 44 #[.pointer (some ⟨c.r, 0, none⟩), .int .i64 i] W (RPost W c av R i x { s with b := s.bottom, bottom := s.bottom - 1 }) := by
  obtain ⟨t1, b1, c1, b2, p1, p2, l1⟩ := hf
  have hatI : (i : Int) < R.hs.length := by have := H.at_; omega
  have hne := H.ne
  obtain ⟨ne1, ne2, ne3, ne4, ne5, ne6⟩ := hne
  obtain ⟨lt1, lt2, lt3, lt4⟩ := H.lt
  have hC := H.cells
  have r0 := hC.r0
  have r1 := hC.r1
  have r2 := hC.r2
  have r3 := hC.r3
  have r5 := hC.r5
  have h0 := hC.h0
  have h1 := hC.h1
  have h2 := hC.h2
  have h3 := hC.h3
  have h4 := hC.h4
  have fr1 := hC.fr 1
  have fr2 := hC.fr 2
  have fh1 := hC.fh (i * 5 + 1)
  have fh2 := hC.fh (i * 5 + 2)
  have fh3 := hC.fh (i * 5 + 3)
  have fh4 := hC.fh (i * 5 + 4)
  clear hC
  rw [hat] at h0
  clear hat
  go_enter Try.func44, Try.ntmps44
  go_wp2
  go_end0
  exact ⟨rfl, av, (H.setB s.bottom).setBottom (s.bottom - 1), (((Only.refl W).wide (fun _ h => by cases h)).set ⟨c.HB, i * 5 + 2, none⟩ _ (.inl (by simp [rB]))).set ⟨c.r, 2, none⟩ _ (.inl (by simp [rB])), fun _ _ h => .inl h⟩

set_option maxRecDepth 100000 in
set_option maxHeartbeats 2000000 in
theorem rpop2 (H : RV W c av R i x s) (hlen : R.hs.length ≤ 64) (hf : Fit s) (hat : s.at_ = 2) :
    Calls Try.prog 44 #[.pointer (some ⟨c.r, 0, none⟩), .int .i64 i] W (RPost W c av R i x { s with t := s.top }) := by
  obtain ⟨t1, b1, c1, b2, p1, p2, l1⟩ := hf
  have hatI : (i : Int) < R.hs.length := by have := H.at_; omega
  have hne := H.ne
  obtain ⟨ne1, ne2, ne3, ne4, ne5, ne6⟩ := hne
  obtain ⟨lt1, lt2, lt3, lt4⟩ := H.lt
  have hC := H.cells
  have r0 := hC.r0
  have r1 := hC.r1
  have r2 := hC.r2
  have r3 := hC.r3
  have r5 := hC.r5
  have h0 := hC.h0
  have h1 := hC.h1
  have h2 := hC.h2
  have h3 := hC.h3
  have h4 := hC.h4
  have fr1 := hC.fr 1
  have fr2 := hC.fr 2
  have fh1 := hC.fh (i * 5 + 1)
  have fh2 := hC.fh (i * 5 + 2)
  have fh3 := hC.fh (i * 5 + 3)
  have fh4 := hC.fh (i * 5 + 4)
  clear hC
  rw [hat] at h0
  clear hat
  go_enter Try.func44, Try.ntmps44
  go_wp2
  go_end0
  exact ⟨rfl, av, H.setT s.top, ((Only.refl W).wide (fun _ h => by cases h)).set ⟨c.HB, i * 5 + 1, none⟩ _ (.inl (by simp [rB])), fun _ _ h => .inl h⟩

set_option maxRecDepth 100000 in
set_option maxHeartbeats 2000000 in
theorem rpop3e (H : RV W c av R i x s) (hlen : R.hs.length ≤ 64) (hf : Fit s) (hat : s.at_ = 3) (h0b : 0 ≤ s.b) (hc : s.b - 1 < s.t) :
    Calls Try.prog 44 #[.pointer (some ⟨c.r, 0, none⟩), .int .i64 i] W (RPost W c av R i x (rend { s with bottom := s.b } false 0)) := by
  obtain ⟨t1, b1, c1, b2, p1, p2, l1⟩ := hf
  have hatI : (i : Int) < R.hs.length := by have := H.at_; omega
  have hne := H.ne
  obtain ⟨ne1, ne2, ne3, ne4, ne5, ne6⟩ := hne
  obtain ⟨lt1, lt2, lt3, lt4⟩ := H.lt
  have hw : wrap64 (s.b - 1) = s.b - 1 := wrap_small (by omega) (by omega)
  have hwi : IntKind.i64.wrap (s.b - 1) = s.b - 1 := by rw [wrap_i64]; exact hw
  have hsl := slotR_lt (n := s.pl.length) (k := s.b - 1) p1 (by omega)
  have hcq : W.cell? ⟨c.Q, slotR s.pl.length (s.b - 1), none⟩ = some (i64 s.pl[slotR s.pl.length (s.b - 1)]) := H.is.qq.cell (slotR s.pl.length (s.b - 1)) hsl
  have fq := H.cells.fq (slotR s.pl.length (s.b - 1))
  have HPLC := hid (fun (W2 : World) (h : W2.cell? ⟨c.r, 0, none⟩ = some (.int .i64 s.pl.length)) => place_ref (W := W2) s.pl.length c.r (s.b - 1) p1 p2 (by omega) (by omega) h)
  have HGET : Hid (s.pl[slotR s.pl.length (s.b - 1)] = getR s.pl (s.b - 1)) := by show _ = _; unfold getR; rw [List.getD_eq_getElem?_getD, List.getElem?_eq_getElem hsl]; rfl
  have hC := H.cells
  have r0 := hC.r0
  have r1 := hC.r1
  have r2 := hC.r2
  have r3 := hC.r3
  have r5 := hC.r5
  have h0 := hC.h0
  have h1 := hC.h1
  have h2 := hC.h2
  have h3 := hC.h3
  have h4 := hC.h4
  have fr1 := hC.fr 1
  have fr2 := hC.fr 2
  have fh1 := hC.fh (i * 5 + 1)
  have fh2 := hC.fh (i * 5 + 2)
  have fh3 := hC.fh (i * 5 + 3)
  have fh4 := hC.fh (i * 5 + 4)
  clear hC
  rw [hat] at h0
  clear hat
  go_enter Try.func44, Try.ntmps44
  go_upto_region 10 with (fail)
  have hcq1 := hcq
  rw [HGET.out] at hcq1
  have hslI : (slotR s.pl.length (s.b - 1) : Int) < s.pl.length := by omega
  have HSL := hid (rfl : slotR s.pl.length (s.b - 1) = slotR s.pl.length (s.b - 1))
  generalize getR s.pl (s.b - 1) = gv at *
  clear HGET HSL hcq
  generalize slotR s.pl.length (s.b - 1) = sl at *
  go_region_held3 (fun w2 => w2.cell? ⟨c.r, 3, none⟩ = some (.slice (some ⟨c.Q, 0, none⟩) s.pl.length c.qc) ∧ w2.cell? ⟨c.HB, i * 5 + 2, none⟩ = some (.int .i64 s.b) ∧ w2.cell? ⟨c.Q, sl, none⟩ = some (i64 gv)) (first | exact ⟨r3, h2, hcq1⟩ | exact ⟨(cell_set _ _ _ _ ne1).trans r3, (cell_set2 _ _ _ _ _ (by omega)).trans h2, (cell_set _ _ _ _ ne6).trans hcq1⟩)
      (first | (go_at_call 46; refine (HPLC.out _ (by exact r0)).mono ?_; rintro e w2 ⟨rfl, q, rfl⟩))
  have HR2 : RV ((W.drewN (1 + q)).setCell ⟨c.HB, i * 5 + 4, none⟩ (i64 gv)) c av R i x { s with v := gv } := (H.drewN _).setV gv
  have OR2 : Only (rB c av i) W ((W.drewN (1 + q)).setCell ⟨c.HB, i * 5 + 4, none⟩ (i64 gv)) := ((((Only.refl W).wide (fun _ h => by cases h)).drewN _).set ⟨c.HB, i * 5 + 4, none⟩ _ (.inl (by simp [rB])))
  go_upto_region 11 with (fail)
  generalize ((W.drewN (1 + q)).setCell ⟨c.HB, i * 5 + 4, none⟩ (i64 gv)) = W2 at *
  clear r0 r1 r2 r3 r5 h0 h1 h2 h3 h4 fr1 fr2 fh1 fh2 fh3 fh4
  obtain ⟨lt1, lt2, lt3, lt4⟩ := HR2.lt
  have hC := HR2.cells
  have r0 := hC.r0
  have r1 := hC.r1
  have r2 := hC.r2
  have r3 := hC.r3
  have r5 := hC.r5
  have h0 := hC.h0
  have h1 := hC.h1
  have h2 := hC.h2
  have h3 := hC.h3
  have h4 := hC.h4
  have fr1 := hC.fr 1
  have fr2 := hC.fr 2
  have fh1 := hC.fh (i * 5 + 1)
  have fh2 := hC.fh (i * 5 + 2)
  have fh3 := hC.fh (i * 5 + 3)
  have fh4 := hC.fh (i * 5 + 4)
  clear hC
  have hcd : decide (s.b - 1 < s.t) = true := by simpa using hc
  go_quiet (fail)
  have HR3 := HR2.drewN nq
  have HR3O := OR2.drewN nq
  generalize hww : W2.drewN nq = W3 at *
  clear hww
  clear r0 r1 r2 r3 r5 h0 h1 h2 h3 h4 fr1 fr2 fh1 fh2 fh3 fh4
  obtain ⟨lt1, lt2, lt3, lt4⟩ := HR3.lt
  have hC := HR3.cells
  have r0 := hC.r0
  have r1 := hC.r1
  have r2 := hC.r2
  have r3 := hC.r3
  have r5 := hC.r5
  have h0 := hC.h0
  have h1 := hC.h1
  have h2 := hC.h2
  have h3 := hC.h3
  have h4 := hC.h4
  have fr1 := hC.fr 1
  have fr2 := hC.fr 2
  have fh1 := hC.fh (i * 5 + 1)
  have fh2 := hC.fh (i * 5 + 2)
  have fh3 := hC.fh (i * 5 + 3)
  have fh4 := hC.fh (i * 5 + 4)
  clear hC
  go_upto_region 13 with (fail)
  have HR4 := HR3.setBottom s.b
  have OR4 := HR3O.set ⟨c.r, 2, none⟩ (i64 s.b) (.inl (by simp [rB]))
  clear r0 r1 r2 r3 r5 h0 h1 h2 h3 h4 fr1 fr2 fh1 fh2 fh3 fh4
  go_wp2_with (go_at_call 57; refine (end_ref HR4 false 0 hlen l1).mono ?_; rintro e w9 hp9; obtain ⟨rfl, hq9⟩ := RPost.ret hp9; have HP9 := hid hq9; clear hq9 hp9)
  go_end0
  exact RPost.more OR4 ⟨rfl, HP9.out⟩

set_option maxRecDepth 100000 in
set_option maxHeartbeats 2000000 in
theorem rpop3y (H : RV W c av R i x s) (hlen : R.hs.length ≤ 64) (hf : Fit s) (hat : s.at_ = 3) (h0b : 0 ≤ s.b) (hc : s.t < s.b - 1) :
    Calls Try.prog 44 #[.pointer (some ⟨c.r, 0, none⟩), .int .i64 i] W (RPost W c av R i x (rend s true (getR s.pl (s.b - 1)))) := by
  obtain ⟨t1, b1, c1, b2, p1, p2, l1⟩ := hf
  have hatI : (i : Int) < R.hs.length := by have := H.at_; omega
  have hne := H.ne
  obtain ⟨ne1, ne2, ne3, ne4, ne5, ne6⟩ := hne
  obtain ⟨lt1, lt2, lt3, lt4⟩ := H.lt
  have hw : wrap64 (s.b - 1) = s.b - 1 := wrap_small (by omega) (by omega)
  have hwi : IntKind.i64.wrap (s.b - 1) = s.b - 1 := by rw [wrap_i64]; exact hw
  have hsl := slotR_lt (n := s.pl.length) (k := s.b - 1) p1 (by omega)
  have hcq : W.cell? ⟨c.Q, slotR s.pl.length (s.b - 1), none⟩ = some (i64 s.pl[slotR s.pl.length (s.b - 1)]) := H.is.qq.cell (slotR s.pl.length (s.b - 1)) hsl
  have fq := H.cells.fq (slotR s.pl.length (s.b - 1))
  have HPLC := hid (fun (W2 : World) (h : W2.cell? ⟨c.r, 0, none⟩ = some (.int .i64 s.pl.length)) => place_ref (W := W2) s.pl.length c.r (s.b - 1) p1 p2 (by omega) (by omega) h)
  have HGET : Hid (s.pl[slotR s.pl.length (s.b - 1)] = getR s.pl (s.b - 1)) := by show _ = _; unfold getR; rw [List.getD_eq_getElem?_getD, List.getElem?_eq_getElem hsl]; rfl
  have hC := H.cells
  have r0 := hC.r0
  have r1 := hC.r1
  have r2 := hC.r2
  have r3 := hC.r3
  have r5 := hC.r5
  have h0 := hC.h0
  have h1 := hC.h1
  have h2 := hC.h2
  have h3 := hC.h3
  have h4 := hC.h4
  have fr1 := hC.fr 1
  have fr2 := hC.fr 2
  have fh1 := hC.fh (i * 5 + 1)
  have fh2 := hC.fh (i * 5 + 2)
  have fh3 := hC.fh (i * 5 + 3)
  have fh4 := hC.fh (i * 5 + 4)
  clear hC
  rw [hat] at h0
  clear hat
  go_enter Try.func44, Try.ntmps44
  go_upto_region 10 with (fail)
  have hcq1 := hcq
  rw [HGET.out] at hcq1
  have hslI : (slotR s.pl.length (s.b - 1) : Int) < s.pl.length := by omega
  have HSL := hid (rfl : slotR s.pl.length (s.b - 1) = slotR s.pl.length (s.b - 1))
  generalize getR s.pl (s.b - 1) = gv at *
  clear HGET HSL hcq
  generalize slotR s.pl.length (s.b - 1) = sl at *
  go_region_held3 (fun w2 => w2.cell? ⟨c.r, 3, none⟩ = some (.slice (some ⟨c.Q, 0, none⟩) s.pl.length c.qc) ∧ w2.cell? ⟨c.HB, i * 5 + 2, none⟩ = some (.int .i64 s.b) ∧ w2.cell? ⟨c.Q, sl, none⟩ = some (i64 gv)) (first | exact ⟨r3, h2, hcq1⟩ | exact ⟨(cell_set _ _ _ _ ne1).trans r3, (cell_set2 _ _ _ _ _ (by omega)).trans h2, (cell_set _ _ _ _ ne6).trans hcq1⟩)
      (first | (go_at_call 46; refine (HPLC.out _ (by exact r0)).mono ?_; rintro e w2 ⟨rfl, q, rfl⟩))
  have HR2 : RV ((W.drewN (1 + q)).setCell ⟨c.HB, i * 5 + 4, none⟩ (i64 gv)) c av R i x { s with v := gv } := (H.drewN _).setV gv
  have OR2 : Only (rB c av i) W ((W.drewN (1 + q)).setCell ⟨c.HB, i * 5 + 4, none⟩ (i64 gv)) := ((((Only.refl W).wide (fun _ h => by cases h)).drewN _).set ⟨c.HB, i * 5 + 4, none⟩ _ (.inl (by simp [rB])))
  go_upto_region 11 with (fail)
  generalize ((W.drewN (1 + q)).setCell ⟨c.HB, i * 5 + 4, none⟩ (i64 gv)) = W2 at *
  clear r0 r1 r2 r3 r5 h0 h1 h2 h3 h4 fr1 fr2 fh1 fh2 fh3 fh4
  obtain ⟨lt1, lt2, lt3, lt4⟩ := HR2.lt
  have hC := HR2.cells
  have r0 := hC.r0
  have r1 := hC.r1
  have r2 := hC.r2
  have r3 := hC.r3
  have r5 := hC.r5
  have h0 := hC.h0
  have h1 := hC.h1
  have h2 := hC.h2
  have h3 := hC.h3
  have h4 := hC.h4
  have fr1 := hC.fr 1
  have fr2 := hC.fr 2
  have fh1 := hC.fh (i * 5 + 1)
  have fh2 := hC.fh (i * 5 + 2)
  have fh3 := hC.fh (i * 5 + 3)
  have fh4 := hC.fh (i * 5 + 4)
  clear hC
  have hcd : decide (s.b - 1 < s.t) = false := by simp; omega
  have hcd2 : decide (s.t < s.b - 1) = true := by simpa using hc
  go_quiet (fail)
  have HR3 := HR2.drewN nq
  have HR3O := OR2.drewN nq
  generalize hww : W2.drewN nq = W3 at *
  clear hww
  clear r0 r1 r2 r3 r5 h0 h1 h2 h3 h4 fr1 fr2 fh1 fh2 fh3 fh4
  obtain ⟨lt1, lt2, lt3, lt4⟩ := HR3.lt
  have hC := HR3.cells
  have r0 := hC.r0
  have r1 := hC.r1
  have r2 := hC.r2
  have r3 := hC.r3
  have r5 := hC.r5
  have h0 := hC.h0
  have h1 := hC.h1
  have h2 := hC.h2
  have h3 := hC.h3
  have h4 := hC.h4
  have fr1 := hC.fr 1
  have fr2 := hC.fr 2
  have fh1 := hC.fh (i * 5 + 1)
  have fh2 := hC.fh (i * 5 + 2)
  have fh3 := hC.fh (i * 5 + 3)
  have fh4 := hC.fh (i * 5 + 4)
  clear hC
  go_upto_region 14 with (fail)
  go_quiet (fail)
  have HR4 := HR3.drewN nq
  have HR4O := HR3O.drewN nq
  generalize hww : W3.drewN nq = W4 at *
  clear hww
  clear r0 r1 r2 r3 r5 h0 h1 h2 h3 h4 fr1 fr2 fh1 fh2 fh3 fh4
  obtain ⟨lt1, lt2, lt3, lt4⟩ := HR4.lt
  have hC := HR4.cells
  have r0 := hC.r0
  have r1 := hC.r1
  have r2 := hC.r2
  have r3 := hC.r3
  have r5 := hC.r5
  have h0 := hC.h0
  have h1 := hC.h1
  have h2 := hC.h2
  have h3 := hC.h3
  have h4 := hC.h4
  have fr1 := hC.fr 1
  have fr2 := hC.fr 2
  have fh1 := hC.fh (i * 5 + 1)
  have fh2 := hC.fh (i * 5 + 2)
  have fh3 := hC.fh (i * 5 + 3)
  have fh4 := hC.fh (i * 5 + 4)
  clear hC
  go_wp2_with (go_at_call 57; refine (end_ref HR4 true gv hlen l1).mono ?_; rintro e w9 hp9; obtain ⟨rfl, hq9⟩ := RPost.ret hp9; have HP9 := hid hq9; clear hq9 hp9)
  go_end0
  exact RPost.more HR4O ⟨rfl, HP9.out⟩

set_option maxRecDepth 100000 in
set_option maxHeartbeats 2000000 in
theorem rpop3w (H : RV W c av R i x s) (hlen : R.hs.length ≤ 64) (hf : Fit s) (hat : s.at_ = 3) (h0b : 0 ≤ s.b) (hc : s.t = s.b - 1) (hx : s.top = s.t) :
    Calls Try.prog 44 #[.pointer (some ⟨c.r, 0, none⟩), .int .i64 i] W (RPost W c av R i x { s with v := getR s.pl (s.b - 1), top := s.top + 1, won := true }) := by
  obtain ⟨t1, b1, c1, b2, p1, p2, l1⟩ := hf
  have hatI : (i : Int) < R.hs.length := by have := H.at_; omega
  have hne := H.ne
  obtain ⟨ne1, ne2, ne3, ne4, ne5, ne6⟩ := hne
  obtain ⟨lt1, lt2, lt3, lt4⟩ := H.lt
  have hw : wrap64 (s.b - 1) = s.b - 1 := wrap_small (by omega) (by omega)
  have hwi : IntKind.i64.wrap (s.b - 1) = s.b - 1 := by rw [wrap_i64]; exact hw
  have hsl := slotR_lt (n := s.pl.length) (k := s.b - 1) p1 (by omega)
  have hcq : W.cell? ⟨c.Q, slotR s.pl.length (s.b - 1), none⟩ = some (i64 s.pl[slotR s.pl.length (s.b - 1)]) := H.is.qq.cell (slotR s.pl.length (s.b - 1)) hsl
  have fq := H.cells.fq (slotR s.pl.length (s.b - 1))
  have HPLC := hid (fun (W2 : World) (h : W2.cell? ⟨c.r, 0, none⟩ = some (.int .i64 s.pl.length)) => place_ref (W := W2) s.pl.length c.r (s.b - 1) p1 p2 (by omega) (by omega) h)
  have HGET : Hid (s.pl[slotR s.pl.length (s.b - 1)] = getR s.pl (s.b - 1)) := by show _ = _; unfold getR; rw [List.getD_eq_getElem?_getD, List.getElem?_eq_getElem hsl]; rfl
  have hC := H.cells
  have r0 := hC.r0
  have r1 := hC.r1
  have r2 := hC.r2
  have r3 := hC.r3
  have r5 := hC.r5
  have h0 := hC.h0
  have h1 := hC.h1
  have h2 := hC.h2
  have h3 := hC.h3
  have h4 := hC.h4
  have fr1 := hC.fr 1
  have fr2 := hC.fr 2
  have fh1 := hC.fh (i * 5 + 1)
  have fh2 := hC.fh (i * 5 + 2)
  have fh3 := hC.fh (i * 5 + 3)
  have fh4 := hC.fh (i * 5 + 4)
  clear hC
  rw [hat] at h0
  clear hat
  go_enter Try.func44, Try.ntmps44
  go_upto_region 10 with (fail)
  have hcq1 := hcq
  rw [HGET.out] at hcq1
  have hslI : (slotR s.pl.length (s.b - 1) : Int) < s.pl.length := by omega
  have HSL := hid (rfl : slotR s.pl.length (s.b - 1) = slotR s.pl.length (s.b - 1))
  generalize getR s.pl (s.b - 1) = gv at *
  clear HGET HSL hcq
  generalize slotR s.pl.length (s.b - 1) = sl at *
  go_region_held3 (fun w2 => w2.cell? ⟨c.r, 3, none⟩ = some (.slice (some ⟨c.Q, 0, none⟩) s.pl.length c.qc) ∧ w2.cell? ⟨c.HB, i * 5 + 2, none⟩ = some (.int .i64 s.b) ∧ w2.cell? ⟨c.Q, sl, none⟩ = some (i64 gv)) (first | exact ⟨r3, h2, hcq1⟩ | exact ⟨(cell_set _ _ _ _ ne1).trans r3, (cell_set2 _ _ _ _ _ (by omega)).trans h2, (cell_set _ _ _ _ ne6).trans hcq1⟩)
      (first | (go_at_call 46; refine (HPLC.out _ (by exact r0)).mono ?_; rintro e w2 ⟨rfl, q, rfl⟩))
  have HR2 : RV ((W.drewN (1 + q)).setCell ⟨c.HB, i * 5 + 4, none⟩ (i64 gv)) c av R i x { s with v := gv } := (H.drewN _).setV gv
  have OR2 : Only (rB c av i) W ((W.drewN (1 + q)).setCell ⟨c.HB, i * 5 + 4, none⟩ (i64 gv)) := ((((Only.refl W).wide (fun _ h => by cases h)).drewN _).set ⟨c.HB, i * 5 + 4, none⟩ _ (.inl (by simp [rB])))
  go_upto_region 11 with (fail)
  generalize ((W.drewN (1 + q)).setCell ⟨c.HB, i * 5 + 4, none⟩ (i64 gv)) = W2 at *
  clear r0 r1 r2 r3 r5 h0 h1 h2 h3 h4 fr1 fr2 fh1 fh2 fh3 fh4
  obtain ⟨lt1, lt2, lt3, lt4⟩ := HR2.lt
  have hC := HR2.cells
  have r0 := hC.r0
  have r1 := hC.r1
  have r2 := hC.r2
  have r3 := hC.r3
  have r5 := hC.r5
  have h0 := hC.h0
  have h1 := hC.h1
  have h2 := hC.h2
  have h3 := hC.h3
  have h4 := hC.h4
  have fr1 := hC.fr 1
  have fr2 := hC.fr 2
  have fh1 := hC.fh (i * 5 + 1)
  have fh2 := hC.fh (i * 5 + 2)
  have fh3 := hC.fh (i * 5 + 3)
  have fh4 := hC.fh (i * 5 + 4)
  clear hC
  have hxd : (s.top == s.t) = true := by simp [hx]
  have hxw : wrap64 (s.top + 1) = s.top + 1 := wrap_small (by omega) (by omega)
  have hcd : decide (s.b - 1 < s.t) = false := by simp; omega
  have hcd2 : decide (s.t < s.b - 1) = false := by simp; omega
  clear hx hc
  go_quiet (fail)
  have HR3 := HR2.drewN nq
  have HR3O := OR2.drewN nq
  generalize hww : W2.drewN nq = W3 at *
  clear hww
  clear r0 r1 r2 r3 r5 h0 h1 h2 h3 h4 fr1 fr2 fh1 fh2 fh3 fh4
  obtain ⟨lt1, lt2, lt3, lt4⟩ := HR3.lt
  have hC := HR3.cells
  have r0 := hC.r0
  have r1 := hC.r1
  have r2 := hC.r2
  have r3 := hC.r3
  have r5 := hC.r5
  have h0 := hC.h0
  have h1 := hC.h1
  have h2 := hC.h2
  have h3 := hC.h3
  have h4 := hC.h4
  have fr1 := hC.fr 1
  have fr2 := hC.fr 2
  have fh1 := hC.fh (i * 5 + 1)
  have fh2 := hC.fh (i * 5 + 2)
  have fh3 := hC.fh (i * 5 + 3)
  have fh4 := hC.fh (i * 5 + 4)
  clear hC
  go_upto_region 14 with (fail)
  go_quiet (fail)
  have HR4 := HR3.drewN nq
  have HR4O := HR3O.drewN nq
  generalize hww : W3.drewN nq = W4 at *
  clear hww
  clear r0 r1 r2 r3 r5 h0 h1 h2 h3 h4 fr1 fr2 fh1 fh2 fh3 fh4
  obtain ⟨lt1, lt2, lt3, lt4⟩ := HR4.lt
  have hC := HR4.cells
  have r0 := hC.r0
  have r1 := hC.r1
  have r2 := hC.r2
  have r3 := hC.r3
  have r5 := hC.r5
  have h0 := hC.h0
  have h1 := hC.h1
  have h2 := hC.h2
  have h3 := hC.h3
  have h4 := hC.h4
  have fr1 := hC.fr 1
  have fr2 := hC.fr 2
  have fh1 := hC.fh (i * 5 + 1)
  have fh2 := hC.fh (i * 5 + 2)
  have fh3 := hC.fh (i * 5 + 3)
  have fh4 := hC.fh (i * 5 + 4)
  clear hC
  go_upto_region 16 with (fail)
  go_quiet (fail)
  have HR5 := HR4.drewN nq
  have HR5O := HR4O.drewN nq
  generalize hww : W4.drewN nq = W5 at *
  clear hww
  clear r0 r1 r2 r3 r5 h0 h1 h2 h3 h4 fr1 fr2 fh1 fh2 fh3 fh4
  obtain ⟨lt1, lt2, lt3, lt4⟩ := HR5.lt
  have hC := HR5.cells
  have r0 := hC.r0
  have r1 := hC.r1
  have r2 := hC.r2
  have r3 := hC.r3
  have r5 := hC.r5
  have h0 := hC.h0
  have h1 := hC.h1
  have h2 := hC.h2
  have h3 := hC.h3
  have h4 := hC.h4
  have fr1 := hC.fr 1
  have fr2 := hC.fr 2
  have fh1 := hC.fh (i * 5 + 1)
  have fh2 := hC.fh (i * 5 + 2)
  have fh3 := hC.fh (i * 5 + 3)
  have fh4 := hC.fh (i * 5 + 4)
  clear hC
  go_wp2
  go_end0
  exact ⟨rfl, av, (HR5.setTop (s.top + 1)).setWon true, (HR5O.set ⟨c.r, 1, none⟩ _ (.inl (by simp [rB]))).set ⟨c.HB, i * 5 + 3, none⟩ _ (.inl (by simp [rB])), fun _ _ h => .inl h⟩

set_option maxRecDepth 100000 in
set_option maxHeartbeats 2000000 in
theorem rpop3l (H : RV W c av R i x s) (hlen : R.hs.length ≤ 64) (hf : Fit s) (hat : s.at_ = 3) (h0b : 0 ≤ s.b) (hc : s.t = s.b - 1) (hx : ¬ s.top = s.t) :
    Calls Try.prog 44 #[.pointer (some ⟨c.r, 0, none⟩), .int .i64 i] W (RPost W c av R i x { s with v := getR s.pl (s.b - 1) }) := by
  obtain ⟨t1, b1, c1, b2, p1, p2, l1⟩ := hf
  have hatI : (i : Int) < R.hs.length := by have := H.at_; omega
  have hne := H.ne
  obtain ⟨ne1, ne2, ne3, ne4, ne5, ne6⟩ := hne
  obtain ⟨lt1, lt2, lt3, lt4⟩ := H.lt
  have hw : wrap64 (s.b - 1) = s.b - 1 := wrap_small (by omega) (by omega)
  have hwi : IntKind.i64.wrap (s.b - 1) = s.b - 1 := by rw [wrap_i64]; exact hw
  have hsl := slotR_lt (n := s.pl.length) (k := s.b - 1) p1 (by omega)
  have hcq : W.cell? ⟨c.Q, slotR s.pl.length (s.b - 1), none⟩ = some (i64 s.pl[slotR s.pl.length (s.b - 1)]) := H.is.qq.cell (slotR s.pl.length (s.b - 1)) hsl
  have fq := H.cells.fq (slotR s.pl.length (s.b - 1))
  have HPLC := hid (fun (W2 : World) (h : W2.cell? ⟨c.r, 0, none⟩ = some (.int .i64 s.pl.length)) => place_ref (W := W2) s.pl.length c.r (s.b - 1) p1 p2 (by omega) (by omega) h)
  have HGET : Hid (s.pl[slotR s.pl.length (s.b - 1)] = getR s.pl (s.b - 1)) := by show _ = _; unfold getR; rw [List.getD_eq_getElem?_getD, List.getElem?_eq_getElem hsl]; rfl
  have hC := H.cells
  have r0 := hC.r0
  have r1 := hC.r1
  have r2 := hC.r2
  have r3 := hC.r3
  have r5 := hC.r5
  have h0 := hC.h0
  have h1 := hC.h1
  have h2 := hC.h2
  have h3 := hC.h3
  have h4 := hC.h4
  have fr1 := hC.fr 1
  have fr2 := hC.fr 2
  have fh1 := hC.fh (i * 5 + 1)
  have fh2 := hC.fh (i * 5 + 2)
  have fh3 := hC.fh (i * 5 + 3)
  have fh4 := hC.fh (i * 5 + 4)
  clear hC
  rw [hat] at h0
  clear hat
  go_enter Try.func44, Try.ntmps44
  go_upto_region 10 with (fail)
  have hcq1 := hcq
  rw [HGET.out] at hcq1
  have hslI : (slotR s.pl.length (s.b - 1) : Int) < s.pl.length := by omega
  have HSL := hid (rfl : slotR s.pl.length (s.b - 1) = slotR s.pl.length (s.b - 1))
  generalize getR s.pl (s.b - 1) = gv at *
  clear HGET HSL hcq
  generalize slotR s.pl.length (s.b - 1) = sl at *
  go_region_held3 (fun w2 => w2.cell? ⟨c.r, 3, none⟩ = some (.slice (some ⟨c.Q, 0, none⟩) s.pl.length c.qc) ∧ w2.cell? ⟨c.HB, i * 5 + 2, none⟩ = some (.int .i64 s.b) ∧ w2.cell? ⟨c.Q, sl, none⟩ = some (i64 gv)) (first | exact ⟨r3, h2, hcq1⟩ | exact ⟨(cell_set _ _ _ _ ne1).trans r3, (cell_set2 _ _ _ _ _ (by omega)).trans h2, (cell_set _ _ _ _ ne6).trans hcq1⟩)
      (first | (go_at_call 46; refine (HPLC.out _ (by exact r0)).mono ?_; rintro e w2 ⟨rfl, q, rfl⟩))
  have HR2 : RV ((W.drewN (1 + q)).setCell ⟨c.HB, i * 5 + 4, none⟩ (i64 gv)) c av R i x { s with v := gv } := (H.drewN _).setV gv
  have OR2 : Only (rB c av i) W ((W.drewN (1 + q)).setCell ⟨c.HB, i * 5 + 4, none⟩ (i64 gv)) := ((((Only.refl W).wide (fun _ h => by cases h)).drewN _).set ⟨c.HB, i * 5 + 4, none⟩ _ (.inl (by simp [rB])))
  go_upto_region 11 with (fail)
  generalize ((W.drewN (1 + q)).setCell ⟨c.HB, i * 5 + 4, none⟩ (i64 gv)) = W2 at *
  clear r0 r1 r2 r3 r5 h0 h1 h2 h3 h4 fr1 fr2 fh1 fh2 fh3 fh4
  obtain ⟨lt1, lt2, lt3, lt4⟩ := HR2.lt
  have hC := HR2.cells
  have r0 := hC.r0
  have r1 := hC.r1
  have r2 := hC.r2
  have r3 := hC.r3
  have r5 := hC.r5
  have h0 := hC.h0
  have h1 := hC.h1
  have h2 := hC.h2
  have h3 := hC.h3
  have h4 := hC.h4
  have fr1 := hC.fr 1
  have fr2 := hC.fr 2
  have fh1 := hC.fh (i * 5 + 1)
  have fh2 := hC.fh (i * 5 + 2)
  have fh3 := hC.fh (i * 5 + 3)
  have fh4 := hC.fh (i * 5 + 4)
  clear hC
  have hxd : (s.top == s.t) = false := by simp [hx]
  have hcd : decide (s.b - 1 < s.t) = false := by simp; omega
  have hcd2 : decide (s.t < s.b - 1) = false := by simp; omega
  clear hx hc
  go_quiet (fail)
  have HR3 := HR2.drewN nq
  have HR3O := OR2.drewN nq
  generalize hww : W2.drewN nq = W3 at *
  clear hww
  clear r0 r1 r2 r3 r5 h0 h1 h2 h3 h4 fr1 fr2 fh1 fh2 fh3 fh4
  obtain ⟨lt1, lt2, lt3, lt4⟩ := HR3.lt
  have hC := HR3.cells
  have r0 := hC.r0
  have r1 := hC.r1
  have r2 := hC.r2
  have r3 := hC.r3
  have r5 := hC.r5
  have h0 := hC.h0
  have h1 := hC.h1
  have h2 := hC.h2
  have h3 := hC.h3
  have h4 := hC.h4
  have fr1 := hC.fr 1
  have fr2 := hC.fr 2
  have fh1 := hC.fh (i * 5 + 1)
  have fh2 := hC.fh (i * 5 + 2)
  have fh3 := hC.fh (i * 5 + 3)
  have fh4 := hC.fh (i * 5 + 4)
  clear hC
  go_upto_region 14 with (fail)
  go_quiet (fail)
  have HR4 := HR3.drewN nq
  have HR4O := HR3O.drewN nq
  generalize hww : W3.drewN nq = W4 at *
  clear hww
  clear r0 r1 r2 r3 r5 h0 h1 h2 h3 h4 fr1 fr2 fh1 fh2 fh3 fh4
  obtain ⟨lt1, lt2, lt3, lt4⟩ := HR4.lt
  have hC := HR4.cells
  have r0 := hC.r0
  have r1 := hC.r1
  have r2 := hC.r2
  have r3 := hC.r3
  have r5 := hC.r5
  have h0 := hC.h0
  have h1 := hC.h1
  have h2 := hC.h2
  have h3 := hC.h3
  have h4 := hC.h4
  have fr1 := hC.fr 1
  have fr2 := hC.fr 2
  have fh1 := hC.fh (i * 5 + 1)
  have fh2 := hC.fh (i * 5 + 2)
  have fh3 := hC.fh (i * 5 + 3)
  have fh4 := hC.fh (i * 5 + 4)
  clear hC
  go_upto_region 16 with (fail)
  go_quiet (fail)
  have HR5 := HR4.drewN nq
  have HR5O := HR4O.drewN nq
  generalize hww : W4.drewN nq = W5 at *
  clear hww
  clear r0 r1 r2 r3 r5 h0 h1 h2 h3 h4 fr1 fr2 fh1 fh2 fh3 fh4
  obtain ⟨lt1, lt2, lt3, lt4⟩ := HR5.lt
  have hC := HR5.cells
  have r0 := hC.r0
  have r1 := hC.r1
  have r2 := hC.r2
  have r3 := hC.r3
  have r5 := hC.r5
  have h0 := hC.h0
  have h1 := hC.h1
  have h2 := hC.h2
  have h3 := hC.h3
  have h4 := hC.h4
  have fr1 := hC.fr 1
  have fr2 := hC.fr 2
  have fh1 := hC.fh (i * 5 + 1)
  have fh2 := hC.fh (i * 5 + 2)
  have fh3 := hC.fh (i * 5 + 3)
  have fh4 := hC.fh (i * 5 + 4)
  clear hC
  go_wp2
  go_end0
  exact ⟨rfl, av, HR5, HR5O, fun _ _ h => .inl h⟩

set_option maxRecDepth 100000 in
set_option maxHeartbeats 2000000 in
theorem rpop4 (H : RV W c av R i x s) (hlen : R.hs.length ≤ 64) (hf : Fit s) (hat : s.at_ = 4) :
    Calls Try.prog 44 #[.pointer (some ⟨c.r, 0, none⟩), .int .i64 i] W (RPost W c av R i x (rend { s with bottom := s.b } s.won s.v)) := by
  obtain ⟨t1, b1, c1, b2, p1, p2, l1⟩ := hf
  have hatI : (i : Int) < R.hs.length := by have := H.at_; omega
  have hne := H.ne
  obtain ⟨ne1, ne2, ne3, ne4, ne5, ne6⟩ := hne
  obtain ⟨lt1, lt2, lt3, lt4⟩ := H.lt
  have hC := H.cells
  have r0 := hC.r0
  have r1 := hC.r1
  have r2 := hC.r2
  have r3 := hC.r3
  have r5 := hC.r5
  have h0 := hC.h0
  have h1 := hC.h1
  have h2 := hC.h2
  have h3 := hC.h3
  have h4 := hC.h4
  have fr1 := hC.fr 1
  have fr2 := hC.fr 2
  have fh1 := hC.fh (i * 5 + 1)
  have fh2 := hC.fh (i * 5 + 2)
  have fh3 := hC.fh (i * 5 + 3)
  have fh4 := hC.fh (i * 5 + 4)
  clear hC
  rw [hat] at h0
  clear hat
  go_enter Try.func44, Try.ntmps44
  go_upto_region 3 with (fail)
  have HR2 := H.setBottom s.b
  have OR2 : Only (rB c av i) W (W.setCell ⟨c.r, 2, none⟩ (i64 s.b)) := ((Only.refl W).wide (fun _ h => by cases h)).set ⟨c.r, 2, none⟩ _ (.inl (by simp [rB]))
  generalize W.setCell ⟨c.r, 2, none⟩ (i64 s.b) = W2 at *
  clear r0 r1 r2 r3 r5 h0 h1 h2 h3 h4 fr1 fr2 fh1 fh2 fh3 fh4
  have hC := HR2.cells
  have r0 := hC.r0
  have r1 := hC.r1
  have r2 := hC.r2
  have r3 := hC.r3
  have r5 := hC.r5
  have h0 := hC.h0
  have h1 := hC.h1
  have h2 := hC.h2
  have h3 := hC.h3
  have h4 := hC.h4
  have fr1 := hC.fr 1
  have fr2 := hC.fr 2
  have fh1 := hC.fh (i * 5 + 1)
  have fh2 := hC.fh (i * 5 + 2)
  have fh3 := hC.fh (i * 5 + 3)
  have fh4 := hC.fh (i * 5 + 4)
  clear hC
  go_region_with (first | (go_at_call 57; refine (end_ref (HR2.drewN 1) s.won s.v hlen l1).mono ?_; rintro e w9 hp9; obtain ⟨rfl, hq9⟩ := RPost.ret hp9; have HP9 := hid hq9; clear hq9 hp9))
  all_goals (go_wp2_with fail)
  all_goals go_end0
  all_goals exact RPost.more (OR2.drewN 1) ⟨rfl, HP9.out⟩

end Go.Proofs.Ytpgdpddmgljpmaa
