/-
  The walks of Fits, the program's and the document's.
-/
import Derived.Test.YtkjiiikcillcfaaRnd3
namespace Go.Proofs.Ytkjiiikcillcfaa
open Go.RowKit

def fitsP (xs : List It) (ls : List Bool) : Bool := decide (offErr xs ls = 0) && decide (moreP xs ls = 0)

theorem moreN_mono (xs : List It) (ls : List Bool) (k n : Nat) (h : k ≤ n) : moreN xs ls k ≤ moreN xs ls n := by
  induction n with
  | zero => have : k = 0 := by omega
            subst this; exact Nat.le_refl _
  | succ n ih =>
    by_cases hk : k = n + 1
    · subst hk; exact Nat.le_refl _
    · have := ih (by omega)
      rw [moreN_succ]; omega

set_option maxHeartbeats 1000000 in
theorem refFits_any (p : Option Addr) (c : Nat) (xs : List It) (q : Option Addr) (d : Nat) (ls : List Bool) (w : World) (hm : xs.length ≤ 1000000)
    (hrow : Row w p (itCells xs)) (hrow2 : Row w q (bools ls)) :
    Calls Try.prog 12 #[.slice p xs.length c, .slice q ls.length d] w fun e w' => e = .returned (.bool (fitsP xs ls)) ∧ Below w.heap.size w w' := by
  have HO := refRound_any p c xs q d ls w hm hrow hrow2
  unfold RdPost at HO
  obtain ⟨E, hEE⟩ : ∃ E, E = offErr xs ls := ⟨_, rfl⟩
  obtain ⟨M, hMM⟩ : ∃ M, M = rdMore xs ls := ⟨_, rfl⟩
  rw [← hEE, ← hMM] at HO
  have HF : Hid (fitsP xs ls = (decide (E = 0) && decide (M = 0))) := by
    simp only [Hid, fitsP, hEE, hMM, rdMore]
    by_cases h : offErr xs ls = 0 <;> simp [h]
  clear hEE hMM
  go_enter Try.func12, Try.ntmps12
  go_wp2_with (go_at_call 25; refine HO.mono ?_; rintro e w1 ⟨v, rfl, ho1, hb1⟩)
  all_goals go_ret
  all_goals refine ⟨ret_bool ?_, hb1⟩
  all_goals rw [HF.out]
  all_goals simp_all
  all_goals rw [Bool.eq_iff_iff]; simp

set_option maxHeartbeats 2000000 in
theorem Fits_any (p : Option Addr) (c : Nat) (xs : List It) (q : Option Addr) (d : Nat) (ls : List Bool) (w : World) (hm : xs.length ≤ 1000000) (hm2 : ls.length ≤ 1000000)
    (hrow : Row w p (itCells xs)) (hrow2 : Row w q (bools ls)) :
    Calls Try.prog 22 #[.slice p xs.length c, .slice q ls.length d] w fun e w' => e = .returned (.bool (fitsP xs ls)) ∧ Below w.heap.size w w' := by
  have HO := Offsets_any p c xs q d ls w hm hm2 hrow hrow2
  obtain ⟨E, hEE⟩ : ∃ E, E = offErr xs ls := ⟨_, rfl⟩
  unfold OffPost at HO
  rw [← hEE] at HO
  by_cases hE : E = 0
  · subst hE
    have hck := (offErr_ok hEE.symm).1
    have hl := (offErr_ok hEE.symm).2
    have hm := (checkP_ok hck).1
    have hRes : offRes xs ls = offs xs ls := by simp [offRes, ← hEE]
    rw [hRes, offs_len] at HO
    clear hRes
    have HEE := hid hEE
    have HCK := hid hck
    have HL := hid hl
    have HO := hid HO
    rw [hl] at HO ⊢
    clear hEE hck hl
    go_enter Try.func22, Try.ntmps22
    go_wp2_with (go_at_call 16; refine HO.out.mono ?_; rintro e w1 ⟨v, rfl, ho1, hb1⟩)
    obtain ⟨vp, vc, rfl, hvr⟩ := own_shape ho1
    clear ho1
    go_loopw [19] (fun i wr => ∃ k : Nat, k ≤ xs.length ∧ i = .int .i64 k ∧ moreN xs ls k = 0 ∧ Row wr vp (i64s (offs xs ls)) ∧ Below w.heap.size w wr) (fun i _ => xs.length - (intOf i).toNat)
    case atStart => exact ⟨0, Nat.zero_le _, rfl, by simp [moreN], hvr, hb1⟩
    case round =>
      clear hb1 hvr
      obtain ⟨k, hk, rfl, hM0, hvr, hb⟩ := hrel
      have hsz := hb.size
      have HMS := hid (moreN_succ xs ls k)
      have HM := hid hM0
      clear hM0
      by_cases hlt : k < xs.length
      · obtain ⟨b, off, rfl, hbs, hzz⟩ := hrow.at (by have := itCells_len xs; omega)
        clear hzz
        obtain ⟨c0, c1, c2, c3, c4, c5, c6⟩ := item_cells (hrow.below hb) k hlt
        have hlk : k < (bools ls).length := by simp [HL.out]; exact hlt
        obtain ⟨qb, qo, rfl, hqb, hzz⟩ := hrow2.at (by omega)
        clear hzz
        have hcl := hrow2.cell k hlk
        simp only [bools, List.getElem_map] at hcl
        have HLG : Hid (ls.getD k false = ls[k]'(by rw [HL.out]; exact hlt)) := by simp [Hid, List.getD, show k < ls.length by rw [HL.out]; exact hlt]
        have HR := hid (fun h3 => reachOk_of xs ls HCK.out k hlt h3)
        have hsx : xs[k]? = some xs[k] := List.getElem?_eq_getElem hlt
        have HRA : Hid (roundAt xs ls k = (decide (xs[k].kind = 3) && (ls.getD k false || !reachP xs[k] k (offs xs ls)))) := by simp [Hid, roundAt, hsx]
        obtain ⟨x, hx⟩ : ∃ x, x = xs[k] := ⟨_, rfl⟩
        obtain ⟨lg, hlg⟩ : ∃ lg, lg = ls[k]'(by rw [HL.out]; exact hlt) := ⟨_, rfl⟩
        rw [← hx] at c0 c1 c2 c3 c4 c5 c6 HR HRA
        rw [← hlg] at hcl HLG
        rw [HLG.out] at HRA
        have HMA : Hid (moreAt xs ls k = (roundAt xs ls k && !lg)) := by simp only [Hid, moreAt, HLG.out]
        clear hx hlg hlk hsx
        have HCL := hid hcl
        clear hcl
        have hcl := (hb.cell (p := ⟨qb, qo + k, none⟩) hqb).trans HCL.out
        have hqw : qb < wr.heap.size := by omega
        rcases Classical.em (x.kind = 3) with hk3 | hk3
        · have HR := hid (HR.out hk3)
          obtain ⟨kind, size, al, to, add, lo, hi⟩ := x
          dsimp only at c0 c1 c2 c3 c4 c5 c6 hk3
          subst hk3
          have HCALL := hid (fun w1 (hr : Row w1 vp (i64s (offs xs ls))) => reaches_any ⟨3, size, al, to, add, lo, hi⟩ k vp vc (offs xs ls) w1 HR.out hr (by rw [offs_len]; omega) (xs.length + 1) (offs_len xs ls).symm)
          unfold It.val at HCALL
          dsimp only at HCALL
          cases lg
          · obtain ⟨R, hR⟩ : ∃ R, R = reachP ⟨3, size, al, to, add, lo, hi⟩ k (offs xs ls) := ⟨_, rfl⟩
            rw [← hR] at HCALL HRA
            clear hR
            cases R
            · have HRA1 : Hid (roundAt xs ls k = true) := by simp only [Hid]; rw [HRA.out]; simp
              have HF : Hid (fitsP xs ls = false) := by
                have h1 := moreN_mono xs ls (k + 1) xs.length (by omega)
                rw [HMS.out, HMA.out, HRA1.out] at h1
                have h2 : 1 ≤ moreP xs ls := by
                  unfold moreP
                  refine Nat.le_trans ?_ h1
                  simp
                simp only [Hid, fitsP]
                rw [decide_eq_false (show ¬ moreP xs ls = 0 by omega), Bool.and_false]
              clear HRA
              go_wp2_with (go_at_call 36; refine (HCALL.out _ (hvr.alloc _)).mono ?_; rintro e w2 ⟨rfl, hb2⟩)
              go_ret
              exact ⟨ret_bool (by rw [HF.out]), (hb.alloc hsz _).trans (hb2.mono (by simp; omega))⟩
            · have HRA1 : Hid (roundAt xs ls k = false) := by simp only [Hid]; rw [HRA.out]; simp
              have HMV : Hid (moreN xs ls (k + 1) = 0) := by simp only [Hid]; rw [HMS.out, HMA.out, HRA1.out, HM.out]; rfl
              clear HRA
              go_wp2_with (go_at_call 36; refine (HCALL.out _ (hvr.alloc _)).mono ?_; rintro e w2 ⟨rfl, hb2⟩)
              go_roundw
              case rel => exact ⟨k + 1, by omega, by go_num, HMV.out, (hvr.alloc _).below hb2, (hb.alloc hsz _).trans (hb2.mono (by simp; omega))⟩
              case measure => simp [intOf]; omega
          · have HMV : Hid (moreN xs ls (k + 1) = 0) := by simp only [Hid]; rw [HMS.out, HMA.out, HM.out]; simp
            clear HRA
            go_wp2_with fail
            go_roundw
            case rel => exact ⟨k + 1, by omega, by go_num, HMV.out, hvr.alloc _, hb.alloc hsz _⟩
            case measure => simp [intOf]; omega
        · have HRA1 : Hid (roundAt xs ls k = false) := by simp only [Hid]; rw [HRA.out]; simp [hk3]
          have HMV : Hid (moreN xs ls (k + 1) = 0) := by simp only [Hid]; rw [HMS.out, HMA.out, HRA1.out, HM.out]; simp
          have e3 : (x.kind == 3) = false := by simpa using hk3
          clear HRA hk3
          go_wp2_with fail
          go_roundw
          case rel => exact ⟨k + 1, by omega, by go_num, HMV.out, hvr.alloc _, hb.alloc hsz _⟩
          case measure => simp [intOf]; omega
      · have hkx : k = xs.length := by omega
        have HF : Hid (fitsP xs ls = true) := by
          have h1 : moreP xs ls = 0 := by unfold moreP; rw [← hkx]; exact HM.out
          simp only [Hid, fitsP, ← HEE.out]
          rw [decide_eq_true h1]; simp
        subst hkx
        go_wp2_with fail
        go_ret
        exact ⟨ret_bool (by rw [HF.out]), hb⟩
  · have HF : Hid (fitsP xs ls = false) := by simp [Hid, fitsP, ← hEE, hE]
    have hne : (E != 0) = true := by simpa using hE
    clear hE hEE
    go_enter Try.func22, Try.ntmps22
    go_wp2_with (go_at_call 16; refine HO.mono ?_; rintro e w1 ⟨v, rfl, ho1, hb1⟩)
    go_ret
    exact ⟨ret_bool (by rw [HF.out]), hb1⟩
end Go.Proofs.Ytkjiiikcillcfaa
