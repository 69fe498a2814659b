/-
  Left of the document's deque.
-/
import Derived.Test.YtpgdpddmgljpmaaR7
namespace Go.Proofs.Ytpgdpddmgljpmaa
open Go.RowKit
variable {W W' : World} {c : RC} {av : Nat → Value} {R S : Dq}

theorem RefIs.below (H : RefIs W c av R) (hb : Below W.heap.size W W') : RefIs W' c av R := H.keep (fun b h => hb.block b h) hb.size
set_option maxRecDepth 100000 in
set_option maxHeartbeats 4000000 in
theorem left_ref (H : RefIs W c av R) (h0 : 0 ≤ R.top) (hbd : R.bottom ≤ R.top + 100000) (htp : R.top ≤ 1000000) (hp : 0 < R.pl.length) (hp2 : R.pl.length ≤ 256) :
    Calls Try.prog 27 #[.pointer (some ⟨c.r, 0, none⟩)] W fun e W' => ∃ v, e = .returned v ∧ W'.ownsRow W.heap.size 2 1 v R.left.length (R.left.map i64) ∧ Below W.heap.size W W' := by
  obtain ⟨N, hN⟩ : ∃ N, N = (R.bottom - R.top).toNat := ⟨_, rfl⟩
  have HL : Hid (R.left = leftP R.pl R.top N) := by rw [hN]; rfl
  have hN2 : N ≤ 100000 := by omega
  have HNB : Hid (R.top < R.bottom → R.bottom = R.top + N) := fun h => by omega
  have HNC : Hid (R.bottom ≤ R.top → N = 0) := fun h => by omega
  have hltr := (Array.getElem?_eq_some_iff.1 H.rr).1
  have hltQ := (Array.getElem?_eq_some_iff.1 H.qq).1
  have HR : Hid (∀ w', Below W.heap.size W w' → w'.cell? ⟨c.r, 0, none⟩ = some (.int .i64 R.pl.length) ∧ w'.cell? ⟨c.r, 1, none⟩ = some (.int .i64 R.top) ∧ w'.cell? ⟨c.r, 2, none⟩ = some (.int .i64 R.bottom) ∧ w'.cell? ⟨c.r, 3, none⟩ = some (.slice (some ⟨c.Q, 0, none⟩) R.pl.length c.qc)) := fun w' hb =>
    ⟨(hb.cell (p := ⟨c.r, 0, none⟩) hltr).trans (cell_of_row W c.r 0 _ _ _ H.rr), (hb.cell (p := ⟨c.r, 1, none⟩) hltr).trans (cell_of_row W c.r 1 _ _ _ H.rr), (hb.cell (p := ⟨c.r, 2, none⟩) hltr).trans (cell_of_row W c.r 2 _ _ _ H.rr), (hb.cell (p := ⟨c.r, 3, none⟩) hltr).trans (cell_of_row W c.r 3 _ _ _ H.rr)⟩
  have HQ : Hid (∀ w', Below W.heap.size W w' → ∀ k : Int, 0 ≤ k → w'.cell? ⟨c.Q, slotR R.pl.length k, none⟩ = some (i64 (getP R.pl k))) := fun w' hb k hk => by
    have hs := slot_lt R.pl k hp
    have e : slotR R.pl.length k = slot R.pl k := slotR_pos hp hk
    rw [e]
    refine (hb.cell (p := ⟨c.Q, slot R.pl k, none⟩) hltQ).trans ?_
    rw [H.qq.cell _ hs]; simp [getP, List.getD_eq_getElem?_getD, hs]
  obtain ⟨_, c1, c2, _⟩ := HR.out W (Below.refl _ _)
  clear hN H
  go_enter Try.func27, Try.ntmps27
  go_wp2
  go_loopw [3, 4] (fun v i wr => ∃ k : Nat, (k ≤ N) ∧ i = i64 (R.top + k) ∧ wr.ownsRow W.heap.size 2 1 v k ((leftP R.pl R.top k).map i64) ∧ Below W.heap.size W wr) (fun _ i _ => N - (intOf i - R.top).toNat)
  case atStart => exact ⟨0, Nat.zero_le _, by simp, World.ownsRow_nil _ _ _ _, Below.refl _ _⟩
  case round =>
    obtain ⟨k, hk, rfl, hown, hbl⟩ := hrel
    have hsz := hbl.size
    obtain ⟨r0, r1, r2, r3⟩ := HR.out _ hbl
    have HOWN := hid hown
    have HB := hid hbl
    clear hown hbl c1 c2
    by_cases hlt : R.top + (k : Int) < R.bottom
    · have hkN : k < N := by have := HNB.out (by omega); omega
      have hltd : decide (R.top + (k : Int) < R.bottom) = true := by simpa using hlt
      have hQ := HQ.out _ HB.out (R.top + k) (by omega)
      have hsl := slotR_lt (n := R.pl.length) (k := R.top + k) hp (by omega)
      have hslI : (slotR R.pl.length (R.top + k) : Int) < R.pl.length := by omega
      have HPLC := hid (fun (W2 : World) (h : W2.cell? ⟨c.r, 0, none⟩ = some (.int .i64 R.pl.length)) => place_ref (W := W2) R.pl.length c.r (R.top + k) hp hp2 (by omega) (by omega) h)
      have HW : Hid (wrap64 (R.top + k + 1) = R.top + (k + 1 : Nat)) := (wrap_small (by omega) (by omega)).trans (by omega)
      have HS := hid (leftP_succ R.pl R.top k)
      obtain ⟨vp, vc, rfl, _⟩ := own_row HOWN.out
      generalize getP R.pl (R.top + k) = gv at *
      generalize slotR R.pl.length (R.top + k) = sl at *
      go_upto_region 5 with (fail)
      go_region_law (first
        | (go_loud (refine step_app E43 rfl (.tmp 17) (.tmp 27) rfl W.heap.size (.slice vp k vc) k _ rfl ((own_drewN HOWN.out _).alloc _) ⟨_, 0, none⟩ 1 1 [i64 gv] rfl rfl (row_newAt _ _ _ _ (by simp)) (by simp [Value.oneCell']) (by unfold maxLen; omega) (by omega) (by simp; omega) ?_); intro v4 w4 ho4 hg4 hs4)
        | (go_simp; go_at_call 46; refine (HPLC.out _ (by exact r0)).mono ?_; rintro e w2 ⟨rfl, q, rfl⟩))
      all_goals
        have HO4 := hid ho4
        have HB4 := hid (((below_drewN HB.out _).alloc hsz _).grown hg4 (by simp; omega) (own_ge HOWN.out))
        clear ho4 hg4 hs4
        go_wp2_with fail
        go_roundw
        case rel =>
          refine ⟨k + 1, by omega, ?_, by rw [HS.out]; simpa using HO4.out, HB4.out⟩
          show Value.int .i64 _ = Value.int .i64 _
          congr 1; omega
        case measure => simp [intOf]; omega
    · have hltd : decide (R.top + (k : Int) < R.bottom) = false := by simpa using hlt
      have hkN : k = N := by
        by_cases h : R.top < R.bottom
        · have := HNB.out h; omega
        · have := HNC.out (by omega); omega
      subst hkN
      go_wp2
      go_ret
      refine ⟨_, rfl, ?_, HB.out⟩
      rw [HL.out, show (leftP R.pl R.top k).length = k by simp [leftP]]
      exact HOWN.out
end Go.Proofs.Ytpgdpddmgljpmaa
