/-
  steal of the document's deque (printed by genxr6.py).
-/
import Derived.Test.YtpgdpddmgljpmaaR5
namespace Go.Proofs.Ytpgdpddmgljpmaa
open Go.RowKit
variable {W W' : World} {c : RC} {av : Nat → Value} {R : Dq} {i : Nat} {x : Hd} {s : SS}

set_option maxRecDepth 100000 in
set_option maxHeartbeats 2000000 in
theorem rsteal1 (H : RV W c av R i x s) (hlen : R.hs.length ≤ 64) (hf : Fit s) (hat : s.at_ = 1) :
    Calls Try.prog 45 #[.pointer (some ⟨c.r, 0, none⟩), .int .i64 i] W (RPost W c av R i x { s with t := s.top }) := by
  obtain ⟨t1, b1, c1, b2, p1, p2, l1⟩ := hf
  have hatI : (i : Int) < R.hs.length := by have := H.at_; omega
  have hne := H.ne
  obtain ⟨ne1, ne2, ne3, ne4, ne5, ne6⟩ := hne
  obtain ⟨lt1, lt2, lt3, lt4⟩ := H.lt
  have hC := H.cells
  have r0 := hC.r0
  have r1 := hC.r1
  have r2 := hC.r2
  have r3 := hC.r3
  have r5 := hC.r5
  have h0 := hC.h0
  have h1 := hC.h1
  have h2 := hC.h2
  have h3 := hC.h3
  have h4 := hC.h4
  have fr1 := hC.fr 1
  have fr2 := hC.fr 2
  have fh1 := hC.fh (i * 5 + 1)
  have fh2 := hC.fh (i * 5 + 2)
  have fh3 := hC.fh (i * 5 + 3)
  have fh4 := hC.fh (i * 5 + 4)
  clear hC
  rw [hat] at h0
  clear hat
  go_enter Try.func45, Try.ntmps45
  go_wp2
  go_end0
  exact ⟨rfl, av, H.setT s.top, ((Only.refl W).wide (fun _ h => by cases h)).set ⟨c.HB, i * 5 + 1, none⟩ _ (.inl (by simp [rB])), fun _ _ h => .inl h⟩

set_option maxRecDepth 100000 in
set_option maxHeartbeats 2000000 in
theorem rsteal2f (H : RV W c av R i x s) (hlen : R.hs.length ≤ 64) (hf : Fit s) (hat : s.at_ = 2) (hx : s.bottom ≤ s.t) :
    Calls Try.prog 45 #[.pointer (some ⟨c.r, 0, none⟩), .int .i64 i] W (RPost W c av R i x (rend s false 0)) := by
  obtain ⟨t1, b1, c1, b2, p1, p2, l1⟩ := hf
  have hatI : (i : Int) < R.hs.length := by have := H.at_; omega
  have hne := H.ne
  obtain ⟨ne1, ne2, ne3, ne4, ne5, ne6⟩ := hne
  obtain ⟨lt1, lt2, lt3, lt4⟩ := H.lt
  have hxd : decide (s.bottom ≤ s.t) = true := by simpa using hx
  have OW : Only (rB c av i) W W := (Only.refl W).wide (fun _ h => by cases h)
  have hC := H.cells
  have r0 := hC.r0
  have r1 := hC.r1
  have r2 := hC.r2
  have r3 := hC.r3
  have r5 := hC.r5
  have h0 := hC.h0
  have h1 := hC.h1
  have h2 := hC.h2
  have h3 := hC.h3
  have h4 := hC.h4
  have fr1 := hC.fr 1
  have fr2 := hC.fr 2
  have fh1 := hC.fh (i * 5 + 1)
  have fh2 := hC.fh (i * 5 + 2)
  have fh3 := hC.fh (i * 5 + 3)
  have fh4 := hC.fh (i * 5 + 4)
  clear hC
  rw [hat] at h0
  clear hat
  go_enter Try.func45, Try.ntmps45
  go_upto_region 9 with (fail)
  go_quiet (fail)
  have HR3 := H.drewN nq
  have HR3O := OW.drewN nq
  generalize hww : W.drewN nq = W3 at *
  clear hww
  clear r0 r1 r2 r3 r5 h0 h1 h2 h3 h4 fr1 fr2 fh1 fh2 fh3 fh4
  obtain ⟨lt1, lt2, lt3, lt4⟩ := HR3.lt
  have hC := HR3.cells
  have r0 := hC.r0
  have r1 := hC.r1
  have r2 := hC.r2
  have r3 := hC.r3
  have r5 := hC.r5
  have h0 := hC.h0
  have h1 := hC.h1
  have h2 := hC.h2
  have h3 := hC.h3
  have h4 := hC.h4
  have fr1 := hC.fr 1
  have fr2 := hC.fr 2
  have fh1 := hC.fh (i * 5 + 1)
  have fh2 := hC.fh (i * 5 + 2)
  have fh3 := hC.fh (i * 5 + 3)
  have fh4 := hC.fh (i * 5 + 4)
  clear hC
  go_wp2_with (go_at_call 57; refine (end_ref HR3 false 0 hlen l1).mono ?_; rintro e w9 hp9; obtain ⟨rfl, hq9⟩ := RPost.ret hp9; have HP9 := hid hq9; clear hq9 hp9)
  go_end0
  exact RPost.more HR3O ⟨rfl, HP9.out⟩

set_option maxRecDepth 100000 in
set_option maxHeartbeats 2000000 in
theorem rsteal2 (H : RV W c av R i x s) (hlen : R.hs.length ≤ 64) (hf : Fit s) (hat : s.at_ = 2) (hx : ¬ s.bottom ≤ s.t) :
    Calls Try.prog 45 #[.pointer (some ⟨c.r, 0, none⟩), .int .i64 i] W (RPost W c av R i x s) := by
  obtain ⟨t1, b1, c1, b2, p1, p2, l1⟩ := hf
  have hatI : (i : Int) < R.hs.length := by have := H.at_; omega
  have hne := H.ne
  obtain ⟨ne1, ne2, ne3, ne4, ne5, ne6⟩ := hne
  obtain ⟨lt1, lt2, lt3, lt4⟩ := H.lt
  have hxd : decide (s.bottom ≤ s.t) = false := by simpa using hx
  have OW : Only (rB c av i) W W := (Only.refl W).wide (fun _ h => by cases h)
  have hC := H.cells
  have r0 := hC.r0
  have r1 := hC.r1
  have r2 := hC.r2
  have r3 := hC.r3
  have r5 := hC.r5
  have h0 := hC.h0
  have h1 := hC.h1
  have h2 := hC.h2
  have h3 := hC.h3
  have h4 := hC.h4
  have fr1 := hC.fr 1
  have fr2 := hC.fr 2
  have fh1 := hC.fh (i * 5 + 1)
  have fh2 := hC.fh (i * 5 + 2)
  have fh3 := hC.fh (i * 5 + 3)
  have fh4 := hC.fh (i * 5 + 4)
  clear hC
  rw [hat] at h0
  clear hat
  go_enter Try.func45, Try.ntmps45
  go_upto_region 9 with (fail)
  go_quiet (fail)
  have HR3 := H.drewN nq
  have HR3O := OW.drewN nq
  generalize hww : W.drewN nq = W3 at *
  clear hww
  clear r0 r1 r2 r3 r5 h0 h1 h2 h3 h4 fr1 fr2 fh1 fh2 fh3 fh4
  obtain ⟨lt1, lt2, lt3, lt4⟩ := HR3.lt
  have hC := HR3.cells
  have r0 := hC.r0
  have r1 := hC.r1
  have r2 := hC.r2
  have r3 := hC.r3
  have r5 := hC.r5
  have h0 := hC.h0
  have h1 := hC.h1
  have h2 := hC.h2
  have h3 := hC.h3
  have h4 := hC.h4
  have fr1 := hC.fr 1
  have fr2 := hC.fr 2
  have fh1 := hC.fh (i * 5 + 1)
  have fh2 := hC.fh (i * 5 + 2)
  have fh3 := hC.fh (i * 5 + 3)
  have fh4 := hC.fh (i * 5 + 4)
  clear hC
  go_wp2
  go_end0
  exact ⟨rfl, av, HR3, HR3O, fun _ _ h => .inl h⟩

set_option maxRecDepth 100000 in
set_option maxHeartbeats 2000000 in
theorem rsteal3 (H : RV W c av R i x s) (hlen : R.hs.length ≤ 64) (hf : Fit s) (hat : s.at_ = 3) (h0t : 0 ≤ s.t) (h0u : s.t ≤ 1000000000000) :
    Calls Try.prog 45 #[.pointer (some ⟨c.r, 0, none⟩), .int .i64 i] W (RPost W c av R i x { s with v := getR s.pl s.t }) := by
  obtain ⟨t1, b1, c1, b2, p1, p2, l1⟩ := hf
  have hatI : (i : Int) < R.hs.length := by have := H.at_; omega
  have hne := H.ne
  obtain ⟨ne1, ne2, ne3, ne4, ne5, ne6⟩ := hne
  obtain ⟨lt1, lt2, lt3, lt4⟩ := H.lt
  have hsl := slotR_lt (n := s.pl.length) (k := s.t) p1 (by omega)
  have hcq : W.cell? ⟨c.Q, slotR s.pl.length (s.t), none⟩ = some (i64 s.pl[slotR s.pl.length (s.t)]) := H.is.qq.cell (slotR s.pl.length (s.t)) hsl
  have fq := H.cells.fq (slotR s.pl.length (s.t))
  have HPLC := hid (fun (W2 : World) (h : W2.cell? ⟨c.r, 0, none⟩ = some (.int .i64 s.pl.length)) => place_ref (W := W2) s.pl.length c.r (s.t) p1 p2 (by omega) (by omega) h)
  have HGET : Hid (s.pl[slotR s.pl.length (s.t)] = getR s.pl (s.t)) := by show _ = _; unfold getR; rw [List.getD_eq_getElem?_getD, List.getElem?_eq_getElem hsl]; rfl
  have hC := H.cells
  have r0 := hC.r0
  have r1 := hC.r1
  have r2 := hC.r2
  have r3 := hC.r3
  have r5 := hC.r5
  have h0 := hC.h0
  have h1 := hC.h1
  have h2 := hC.h2
  have h3 := hC.h3
  have h4 := hC.h4
  have fr1 := hC.fr 1
  have fr2 := hC.fr 2
  have fh1 := hC.fh (i * 5 + 1)
  have fh2 := hC.fh (i * 5 + 2)
  have fh3 := hC.fh (i * 5 + 3)
  have fh4 := hC.fh (i * 5 + 4)
  clear hC
  rw [hat] at h0
  clear hat
  go_enter Try.func45, Try.ntmps45
  go_upto_region 12 with (fail)
  have hcq1 := hcq
  rw [HGET.out] at hcq1
  have hslI : (slotR s.pl.length (s.t) : Int) < s.pl.length := by omega
  have HSL := hid (rfl : slotR s.pl.length (s.t) = slotR s.pl.length (s.t))
  generalize getR s.pl (s.t) = gv at *
  clear HGET HSL hcq
  generalize slotR s.pl.length (s.t) = sl at *
  go_region_held3 (fun w2 => w2.cell? ⟨c.r, 3, none⟩ = some (.slice (some ⟨c.Q, 0, none⟩) s.pl.length c.qc) ∧ w2.cell? ⟨c.HB, i * 5 + 1, none⟩ = some (.int .i64 s.t) ∧ w2.cell? ⟨c.Q, sl, none⟩ = some (i64 gv)) (first | exact ⟨r3, h1, hcq1⟩ | exact ⟨(cell_set _ _ _ _ ne1).trans r3, (cell_set2 _ _ _ _ _ (by omega)).trans h1, (cell_set _ _ _ _ ne6).trans hcq1⟩)
      (first | (go_at_call 46; refine (HPLC.out _ (by exact r0)).mono ?_; rintro e w2 ⟨rfl, q, rfl⟩))
  have HR2 : RV ((W.drewN (1 + q)).setCell ⟨c.HB, i * 5 + 4, none⟩ (i64 gv)) c av R i x { s with v := gv } := (H.drewN _).setV gv
  have OR2 : Only (rB c av i) W ((W.drewN (1 + q)).setCell ⟨c.HB, i * 5 + 4, none⟩ (i64 gv)) := ((((Only.refl W).wide (fun _ h => by cases h)).drewN _).set ⟨c.HB, i * 5 + 4, none⟩ _ (.inl (by simp [rB])))
  go_wp2_with fail
  go_end0
  exact ⟨rfl, av, HR2, OR2, fun _ _ h => .inl h⟩

set_option maxRecDepth 100000 in
set_option maxHeartbeats 2000000 in
theorem rsteal4w (H : RV W c av R i x s) (hlen : R.hs.length ≤ 64) (hf : Fit s) (hat : s.at_ = 4) (hx : s.top = s.t) :
    Calls Try.prog 45 #[.pointer (some ⟨c.r, 0, none⟩), .int .i64 i] W (RPost W c av R i x (rend { s with top := s.top + 1 } true s.v)) := by
  obtain ⟨t1, b1, c1, b2, p1, p2, l1⟩ := hf
  have hatI : (i : Int) < R.hs.length := by have := H.at_; omega
  have hne := H.ne
  obtain ⟨ne1, ne2, ne3, ne4, ne5, ne6⟩ := hne
  obtain ⟨lt1, lt2, lt3, lt4⟩ := H.lt
  have hxd : (s.top == s.t) = true := by simp [hx]
  have hxw : wrap64 (s.top + 1) = s.top + 1 := wrap_small (by omega) (by omega)
  clear hx
  have OW : Only (rB c av i) W W := (Only.refl W).wide (fun _ h => by cases h)
  have hC := H.cells
  have r0 := hC.r0
  have r1 := hC.r1
  have r2 := hC.r2
  have r3 := hC.r3
  have r5 := hC.r5
  have h0 := hC.h0
  have h1 := hC.h1
  have h2 := hC.h2
  have h3 := hC.h3
  have h4 := hC.h4
  have fr1 := hC.fr 1
  have fr2 := hC.fr 2
  have fh1 := hC.fh (i * 5 + 1)
  have fh2 := hC.fh (i * 5 + 2)
  have fh3 := hC.fh (i * 5 + 3)
  have fh4 := hC.fh (i * 5 + 4)
  clear hC
  rw [hat] at h0
  clear hat
  go_enter Try.func45, Try.ntmps45
  go_upto_region 2 with (fail)
  go_quiet (fail)
  have HR3 := H.drewN nq
  have HR3O := OW.drewN nq
  generalize hww : W.drewN nq = W3 at *
  clear hww
  clear r0 r1 r2 r3 r5 h0 h1 h2 h3 h4 fr1 fr2 fh1 fh2 fh3 fh4
  obtain ⟨lt1, lt2, lt3, lt4⟩ := HR3.lt
  have hC := HR3.cells
  have r0 := hC.r0
  have r1 := hC.r1
  have r2 := hC.r2
  have r3 := hC.r3
  have r5 := hC.r5
  have h0 := hC.h0
  have h1 := hC.h1
  have h2 := hC.h2
  have h3 := hC.h3
  have h4 := hC.h4
  have fr1 := hC.fr 1
  have fr2 := hC.fr 2
  have fh1 := hC.fh (i * 5 + 1)
  have fh2 := hC.fh (i * 5 + 2)
  have fh3 := hC.fh (i * 5 + 3)
  have fh4 := hC.fh (i * 5 + 4)
  clear hC
  go_upto_region 5 with (fail)
  have HR4 := HR3.setTop (s.top + 1)
  have OR4 := HR3O.set ⟨c.r, 1, none⟩ (i64 (s.top + 1)) (.inl (by simp [rB]))
  generalize W3.setCell ⟨c.r, 1, none⟩ (i64 (s.top + 1)) = W4 at *
  clear r0 r1 r2 r3 r5 h0 h1 h2 h3 h4 fr1 fr2 fh1 fh2 fh3 fh4
  have hC := HR4.cells
  have r0 := hC.r0
  have r1 := hC.r1
  have r2 := hC.r2
  have r3 := hC.r3
  have r5 := hC.r5
  have h0 := hC.h0
  have h1 := hC.h1
  have h2 := hC.h2
  have h3 := hC.h3
  have h4 := hC.h4
  have fr1 := hC.fr 1
  have fr2 := hC.fr 2
  have fh1 := hC.fh (i * 5 + 1)
  have fh2 := hC.fh (i * 5 + 2)
  have fh3 := hC.fh (i * 5 + 3)
  have fh4 := hC.fh (i * 5 + 4)
  clear hC
  go_wp2_with (go_at_call 57; refine (end_ref HR4 true s.v hlen l1).mono ?_; rintro e w9 hp9; obtain ⟨rfl, hq9⟩ := RPost.ret hp9; have HP9 := hid hq9; clear hq9 hp9)
  go_end0
  exact RPost.more OR4 ⟨rfl, HP9.out⟩

set_option maxRecDepth 100000 in
set_option maxHeartbeats 2000000 in
theorem rsteal4l (H : RV W c av R i x s) (hlen : R.hs.length ≤ 64) (hf : Fit s) (hat : s.at_ = 4) (hx : ¬ s.top = s.t) :
    Calls Try.prog 45 #[.pointer (some ⟨c.r, 0, none⟩), .int .i64 i] W (RPost W c av R i x (rend s false s.v)) := by
  obtain ⟨t1, b1, c1, b2, p1, p2, l1⟩ := hf
  have hatI : (i : Int) < R.hs.length := by have := H.at_; omega
  have hne := H.ne
  obtain ⟨ne1, ne2, ne3, ne4, ne5, ne6⟩ := hne
  obtain ⟨lt1, lt2, lt3, lt4⟩ := H.lt
  have hxd : (s.top == s.t) = false := by simp [hx]
  clear hx
  have OW : Only (rB c av i) W W := (Only.refl W).wide (fun _ h => by cases h)
  have hC := H.cells
  have r0 := hC.r0
  have r1 := hC.r1
  have r2 := hC.r2
  have r3 := hC.r3
  have r5 := hC.r5
  have h0 := hC.h0
  have h1 := hC.h1
  have h2 := hC.h2
  have h3 := hC.h3
  have h4 := hC.h4
  have fr1 := hC.fr 1
  have fr2 := hC.fr 2
  have fh1 := hC.fh (i * 5 + 1)
  have fh2 := hC.fh (i * 5 + 2)
  have fh3 := hC.fh (i * 5 + 3)
  have fh4 := hC.fh (i * 5 + 4)
  clear hC
  rw [hat] at h0
  clear hat
  go_enter Try.func45, Try.ntmps45
  go_upto_region 2 with (fail)
  go_quiet (fail)
  have HR3 := H.drewN nq
  have HR3O := OW.drewN nq
  generalize hww : W.drewN nq = W3 at *
  clear hww
  clear r0 r1 r2 r3 r5 h0 h1 h2 h3 h4 fr1 fr2 fh1 fh2 fh3 fh4
  obtain ⟨lt1, lt2, lt3, lt4⟩ := HR3.lt
  have hC := HR3.cells
  have r0 := hC.r0
  have r1 := hC.r1
  have r2 := hC.r2
  have r3 := hC.r3
  have r5 := hC.r5
  have h0 := hC.h0
  have h1 := hC.h1
  have h2 := hC.h2
  have h3 := hC.h3
  have h4 := hC.h4
  have fr1 := hC.fr 1
  have fr2 := hC.fr 2
  have fh1 := hC.fh (i * 5 + 1)
  have fh2 := hC.fh (i * 5 + 2)
  have fh3 := hC.fh (i * 5 + 3)
  have fh4 := hC.fh (i * 5 + 4)
  clear hC
  go_wp2_with (go_at_call 57; refine (end_ref HR3 false s.v hlen l1).mono ?_; rintro e w9 hp9; obtain ⟨rfl, hq9⟩ := RPost.ret hp9; have HP9 := hid hq9; clear hq9 hp9)
  go_end0
  exact RPost.more HR3O ⟨rfl, HP9.out⟩

end Go.Proofs.Ytpgdpddmgljpmaa
