/-
  The walk of All of the code's memory.
-/
import Derived.Test.YthmockfeffikjaaMem8
namespace Go.Proofs.Ythmockfeffikjaa
open Go.RowKit
variable {W : World} {base d : Nat} {v : Value} {ys : List CeR} {S : Mem} {fp : Nat → Prop}

def hdL (v : Value) (_ : Int) : Obj := .cells #[v] 25 (0, 0)
def AllTell (W : World) (l : List Ce) (e : Ending) (w' : World) : Prop :=
  ∃ v zs, e = .returned (.func (.func 53) #[] #[.pointer (some ⟨W.heap.size, 0, none⟩)]) ∧ MemIs w' W.heap.size W.heap.size hdL v zs ⟨l, 0⟩ (fun j => W.heap.size ≤ j ∧ j < w'.heap.size) ∧ Below W.heap.size W w'

set_option maxRecDepth 100000 in
set_option maxHeartbeats 4000000 in
theorem all_walk (H : MemIs W base d hdM v ys S fp) (hlen : S.cs.length ≤ 1000000) : Calls Try.prog 45 #[.pointer (some ⟨d, 0, none⟩)] W (AllTell W S.cs) := by
  rw [H.len] at hlen
  obtain ⟨_, c1, _⟩ := hdM_cells H.head
  have hld := (Array.getElem?_eq_some_iff.1 H.head).1
  obtain ⟨p, c, rfl, hnc, hcm, hrow, hpn, _⟩ := own_row H.own
  unfold maxLen at hcm
  have HR := hid hrow
  have HSL := hid H.sl
  have HOKS := hid H.ok
  have HCS := hid H.cs
  clear hrow H
  have hld1 : d < W.heap.size + 1 := by omega
  go_enter Try.func45, Try.ntmps45
  go_wp2
  go_loopw [13] (fun i wr => ∃ k : Nat, k ≤ ys.length ∧ i = .int .i64 k ∧ NI W hdL ys k wr) (fun i _ => ys.length - (intOf i).toNat)
  case atStart => exact ⟨0, Nat.zero_le _, rfl, NI.start ys hdL ((Below.refl _ _).alloc (Nat.le_refl _) _) (heap_alloc_new W _)⟩
  case round =>
    obtain ⟨k, hk, rfl, hall, hbw, hzw, v, zs, H, hyl⟩ := hrel
    have HALL := hid hall
    have HB := hid hbw
    have HM := hid H
    have HYL := hid hyl
    clear hall hbw H hyl
    by_cases hlt : k < ys.length
    · have hltI : (k : Int) < ys.length := by omega
      have hmem := List.getElem_mem hlt
      have hs := HSL.out _ hmem
      have hcm' := ok_came (HOKS.out _ hmem)
      have HOK := hid (HOKS.out _ hmem)
      obtain ⟨b, o, rfl, hbz, _⟩ := HR.out.at (by rw [ceRow_len]; omega)
      obtain ⟨r0, r1, r2, r3, r4, r5, r6⟩ := ce_cells (HR.out.below HB.out) k hlt
      obtain ⟨y, hy⟩ : ∃ y, y = ys[k] := ⟨_, rfl⟩
      rw [← hy] at r0 r1 r2 r3 r4 r5 r6 hs hcm' HOK
      have HY := hid hy
      clear hy
      have HCP := hid (fun w1 (hb : Below W.heap.size W w1) => copied_any y.x y.p y.c w1 (by omega) (hs.below hb))
      clear hs hmem
      obtain ⟨⟨kind, n, owner, need, came, turns, there⟩, yp, yc⟩ := y
      unfold CopyTell at HCP
      unfold Ce.val at HCP
      dsimp only at *
      go_upto_region 6 with (fail)
      obtain ⟨w1, hw1⟩ : ∃ w1, w1 = wr.alloc (.cells #[i64 kind, i64 n, i64 owner, i64 need, .slice yp came.length yc, i64 turns, .bool there] 30) := ⟨_, rfl⟩
      rw [← hw1]
      have hB1 : Below wr.heap.size wr w1 := by rw [hw1]; exact (Below.refl _ wr).alloc (Nat.le_refl _) _
      have hz1 : wr.heap.size + 1 ≤ w1.heap.size := by rw [hw1]; simp
      have hC1 : CeBlk w1 wr.heap.size ⟨kind, n, owner, need, came, turns, there⟩ yp yc := by rw [hw1]; exact ceblk_new wr ⟨kind, n, owner, need, came, turns, there⟩ yp yc
      clear hw1
      obtain ⟨⟨y0, y1, y2, y3, y4, y5, y6⟩, yf, yl⟩ := hC1.facts
      dsimp only at y0 y1 y2 y3 y4 y5 y6
      have hD1 : w1.heap[W.heap.size]? = some (hdL v 0) := (hB1.block _ hzw).trans HM.out.head
      have d1 : w1.cell? ⟨W.heap.size, 0, none⟩ = some v := cell_of_row _ _ 0 _ _ _ hD1
      have HD1 := hid hD1
      have HBB := hid hB1
      clear hD1 hC1 yf yl r0 r1 r2 r3 r4 r5 r6 hB1
      go_region_law (first
          | (go_loud (refine step_app ECell rfl (.tmp 17) (.tmp 20) rfl W.heap.size v k (ceRow zs) rfl ((HOWN3.out).alloc _) ⟨_, 0, none⟩ 1 1 (CeR.cells ⟨⟨kind, n, owner, need, came, turns, there⟩, p3, c3⟩) rfl rfl (row_newAt _ _ _ _ (by simp)) (ceCells_one _) (by unfold maxLen; omega) (by omega) (by simp; omega) ?_); intro v4 w4 ho4 hg4 hs4; obtain ⟨vp4, vc4, rfl, _⟩ := own_row ho4; have HD4 : Hid (w4.heap[W.heap.size]? = some (hdL v 0)) := (hg4.block _ (by simp; omega) (fun e => HM.out.nd e.symm)).trans ((Below.heap_alloc _ _ _ (by omega)).trans HD3.out); have d4 : w4.cell? ⟨W.heap.size, 0, none⟩ = some v := cell_of_row _ _ 0 _ _ _ HD4.out; have f4 : w4.frozen? ⟨W.heap.size, 0, none⟩ = false := frozen_of_row _ _ _ _ _ HD4.out; have HO4 := hid ho4; have HG4 := hid hg4; have HS4 := hid hs4; clear ho4 hg4 hs4)
          | (go_simp; go_at_call 47; (with_reducible refine (HCP.out _ (by first | exact HB.out.trans (HBB.out.mono HB.out.size) | exact (HB.out.trans (HBB.out.mono HB.out.size)).drew)).mono ?_); rintro e w3 ⟨p3, c3, rfl, ho3, hb3⟩; have HO3 := hid ho3; have hb3' : Below w1.heap.size w1 w3 := ⟨hb3.os, hb3.tape, hb3.output, hb3.size, hb3.block⟩; have HB3 := hid hb3'; have hbr3 : Below wr.heap.size wr w3 := HBB.out.trans (hb3'.mono HBB.out.size); have HOWN3 : Hid (w3.ownsRow W.heap.size 30 7 v k (ceRow zs)) := (by have := own_below HM.out.own hbr3; rw [HYL.out] at this; exact this); have hz3 : w1.heap.size ≤ w3.heap.size := hb3'.size;  have hzw3 : W.heap.size < w3.heap.size := (by omega); have d3 : w3.cell? ⟨W.heap.size, 0, none⟩ = some v := (hb3'.cell (p := ⟨W.heap.size, 0, none⟩) (by show W.heap.size < _; omega)).trans d1; have HD3 : Hid (w3.heap[W.heap.size]? = some (hdL v 0)) := (hb3'.block _ (by omega)).trans HD1.out; have HBR3 := hid hbr3; clear ho3 hb3 hb3' hbr3))
      all_goals
        go_wp2_with fail
        go_roundw
        case rel =>
          refine ⟨k + 1, by omega, by go_num, NI.push hlt (by rw [← HY.out]) HOK.out HB.out hzw HALL.out HM.out HYL.out (w2 := w3.alloc (.cells #[i64 kind, i64 n, i64 owner, i64 need, .slice p3 came.length c3, i64 turns, .bool there] 30)) (HBR3.out.alloc HBR3.out.size _) ((own_slat HO3.out).alloc _) (fun q hq => ?_) HO4.out HG4.out HS4.out (heap_setCell_same w4 W.heap.size 0 _ _ _ HD4.out) (fun j hj => Below.heap_setCell _ _ _ _ hj) (by simp) ⟨(grown_set w4 _ _ _).os, (grown_set w4 _ _ _).tape, (grown_set w4 _ _ _).output⟩⟩
          have h1 : w1.heap.size ≤ q.block := own_ge HO3.out q.block (by subst hq; rfl)
          have h2 := own_lt HO3.out q.block (by subst hq; rfl)
          exact ⟨by omega, by simp; omega⟩
        case measure => simp [intOf]; omega
    · go_wp2
      go_ret
      have hkl : k = ys.length := by omega
      have HM2 := HM.out
      rw [hkl, List.take_length, ← HCS.out] at HM2
      exact ⟨_, _, rfl, HM2, HB.out⟩
theorem all_any (H : MMach W base d hdM S fp) (hlen : S.cs.length ≤ 1000000) : Calls Try.prog 45 #[.pointer (some ⟨d, 0, none⟩)] W (AllTell W S.cs) := by
  obtain ⟨v, ys, h⟩ := H; exact all_walk h hlen
end Go.Proofs.Ythmockfeffikjaa
