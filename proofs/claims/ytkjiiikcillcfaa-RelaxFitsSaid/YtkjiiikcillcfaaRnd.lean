/-
  The walk of relax.round.
-/
import Derived.Test.YtkjiiikcillcfaaReach2
import Derived.Test.YtkjiiikcillcfaaOwn
namespace Go.Proofs.Ytkjiiikcillcfaa
open Go.RowKit

/-- Whether item k is long behind a round. -/
def roundAt (xs : List It) (ls : List Bool) (k : Nat) : Bool :=
  match xs[k]? with | some x => decide (x.kind = 3) && (ls.getD k false || !reachP x k (offs xs ls)) | none => false
def roundP (xs : List It) (ls : List Bool) : List Bool := (List.range xs.length).map (roundAt xs ls)
def moreAt (xs : List It) (ls : List Bool) (k : Nat) : Bool := roundAt xs ls k && !ls.getD k false
def moreN (xs : List It) (ls : List Bool) (k : Nat) : Nat := ((List.range k).filter (moreAt xs ls)).length
def moreP (xs : List It) (ls : List Bool) : Nat := moreN xs ls xs.length
theorem moreN_le (xs : List It) (ls : List Bool) (k : Nat) : moreN xs ls k ≤ k := by
  have := List.length_filter_le (moreAt xs ls) (List.range k)
  simpa [moreN] using this
theorem moreN_succ (xs : List It) (ls : List Bool) (k : Nat) : moreN xs ls (k + 1) = moreN xs ls k + (if moreAt xs ls k then 1 else 0) := by
  simp only [moreN, List.range_succ, List.filter_append, List.length_append]
  cases h : moreAt xs ls k <;> simp [h]
theorem roundP_len (xs : List It) (ls : List Bool) : (roundP xs ls).length = xs.length := by simp [roundP]

/-- The cells of round's answer behind k rounds of its loop. -/
abbrev rndCells (xs : List It) (ls : List Bool) (k : Nat) : List Value := fillTo (fun j => Value.bool (roundAt xs ls j)) (Value.bool false) xs.length k
theorem rnd_full (xs : List It) (ls : List Bool) : rndCells xs ls xs.length = bools (roundP xs ls) := by
  simp [rndCells, fill_full, roundP, bools]

def RndPost (xs : List It) (ls : List Bool) (w : World) (e : Ending) (w' : World) : Prop :=
  ∃ v, e = .returned (.tuple #[v, i64 (moreP xs ls)]) ∧ w'.ownsRow w.heap.size 4 1 v xs.length (bools (roundP xs ls)) ∧ Below w.heap.size w w'

set_option maxHeartbeats 2000000 in
theorem round_any (p : Option Addr) (c : Nat) (xs : List It) (q : Option Addr) (d : Nat) (ls : List Bool) (w : World) (hck : checkP xs = 0) (hl : ls.length = xs.length)
    (hrow : Row w p (itCells xs)) (hrow2 : Row w q (bools ls)) :
    Calls Try.prog 39 #[.slice p xs.length c, .slice q xs.length d] w (RndPost xs ls w) := by
  obtain ⟨hm, hpl, htot⟩ := checkP_ok hck
  have HO := hid (offsets_any p c xs q d ls w hm hl hpl htot hrow hrow2)
  clear hpl htot
  have HCK := hid hck
  have HL := hid hl
  clear hck hl
  go_enter Try.func39, Try.ntmps39
  go_wp2_with (first
    | (go_at_call 32; refine HO.out.mono ?_; rintro e w1 ⟨v, rfl, ho1, hb1⟩; have hsz1 := hb1.size)
    | ((with_reducible show wpList _ _ _ (⟨some 16, _, _, _, _, _⟩ :: _) _ _); go_loud (refine wpList_mkfull E23 rfl _ _ rfl w1.heap.size _ _ _ _ xs.length rfl rfl rfl rfl (by omega) (by unfold maxLen; omega) (Nat.le_refl _) ?_); intro w2 ho2 hg2))
  have hb2 := hb1.grown hg2 (by omega) (by simp)
  have hsz2 : w1.heap.size ≤ w2.heap.size := hg2.size
  rw [made_one _ _ rfl, ← fill_zero (fun j => Value.bool (roundAt xs ls j))] at ho2
  have ho1' := hid (own_kept ho1 (u := .slice none 0 0) hg2 (Apart.symm (Apart.nil _)))
  have hv := own_lt ho1
  obtain ⟨vp, vc, rfl, hvr⟩ := own_shape ho1'.out
  obtain ⟨g, hg⟩ : ∃ g, g = w1.heap.size := ⟨_, rfl⟩
  have HVG : Hid (∀ q, vp = some q → q.block ≠ g) := fun q hq e => by
    subst hq
    have := hv q.block rfl
    omega
  rw [← hg] at ho2 ⊢
  have hgw : w.heap.size ≤ g := by omega
  clear hg hv ho1' ho1 hb1 hsz1 hsz2 hg2
  go_loopw [8, 19] (fun m i wr => ∃ k : Nat, k ≤ xs.length ∧ i = .int .i64 k ∧ m = .int .i64 (moreN xs ls k) ∧ wr.ownsRow g 4 1 (.slice (some ⟨g, 0, none⟩) xs.length xs.length) xs.length (rndCells xs ls k) ∧ Row wr vp (i64s (offs xs ls)) ∧ Below w.heap.size w wr) (fun _ i _ => xs.length - (intOf i).toNat)
  case atStart => exact ⟨0, Nat.zero_le _, rfl, by simp [moreN], ho2, hvr, hb2⟩
  case round =>
    clear hb2 hvr ho2
    obtain ⟨k, hk, rfl, rfl, ho, hvr, hb⟩ := hrel
    have hsz := hb.size
    have hml := moreN_le xs ls k
    have HMS := hid (moreN_succ xs ls k)
    obtain ⟨M, hM⟩ : ∃ M, M = moreN xs ls k := ⟨_, rfl⟩
    rw [← hM] at hml HMS ⊢
    have HM := hid hM
    clear hM
    by_cases hlt : k < xs.length
    · obtain ⟨b, off, rfl, hbs, hzz⟩ := hrow.at (by have := itCells_len xs; omega)
      clear hzz
      obtain ⟨c0, c1, c2, c3, c4, c5, c6⟩ := item_cells (hrow.below hb) k hlt
      have hlk : k < (bools ls).length := by simp [HL.out]; exact hlt
      obtain ⟨qb, qo, rfl, hqb, hzz⟩ := hrow2.at (by omega)
      clear hzz
      have hcl := hrow2.cell k hlk
      simp only [bools, List.getElem_map] at hcl
      have HLG : Hid (ls.getD k false = ls[k]'(by rw [HL.out]; exact hlt)) := by simp [Hid, List.getD, show k < ls.length by rw [HL.out]; exact hlt]
      have hgl : g < wr.heap.size := own_lt ho g rfl
      have HR := hid (fun h3 => reachOk_of xs ls HCK.out k hlt h3)
      have hsx : xs[k]? = some xs[k] := List.getElem?_eq_getElem hlt
      have HRA : Hid (roundAt xs ls k = (decide (xs[k].kind = 3) && (ls.getD k false || !reachP xs[k] k (offs xs ls)))) := by simp [Hid, roundAt, hsx]
      obtain ⟨x, hx⟩ : ∃ x, x = xs[k] := ⟨_, rfl⟩
      obtain ⟨lg, hlg⟩ : ∃ lg, lg = ls[k]'(by rw [HL.out]; exact hlt) := ⟨_, rfl⟩
      rw [← hx] at c0 c1 c2 c3 c4 c5 c6 HR HRA
      rw [← hlg] at hcl HLG
      rw [HLG.out] at HRA
      have HMA : Hid (moreAt xs ls k = (roundAt xs ls k && !lg)) := by simp only [Hid, moreAt, HLG.out]
      clear hx hlg hlk hsx
      have hgq : qb ≠ g := by omega
      have HCL := hid hcl
      clear hcl
      have HCLW := hid (fun (W : World) (h : Below w.heap.size w W) => (h.cell (p := ⟨qb, qo + k, none⟩) hqb).trans HCL.out)
      have HOG : Hid (∀ W : World, W.ownsRow g 4 1 (.slice (some ⟨g, 0, none⟩) xs.length xs.length) xs.length (rndCells xs ls k) → W.cell? ⟨g, k, none⟩ = some (Value.bool false) ∧ W.frozen? ⟨g, k, none⟩ = false ∧ g < W.heap.size) := fun W h => by
        have h1 := own_cell h k (by rw [fill_len]; exact hlt)
        rw [fill_get _ _ _ _ _ hlt, if_neg (Nat.lt_irrefl k)] at h1
        exact ⟨h1.1, h1.2, own_lt h g rfl⟩
      have hqw : qb < wr.heap.size := by omega
      have HFIN : Hid (∀ (W : World) (U : Bool), roundAt xs ls k = U → W.ownsRow g 4 1 (.slice (some ⟨g, 0, none⟩) xs.length xs.length) xs.length (rndCells xs ls k) → (W.setCell ⟨g, k, none⟩ (.bool U)).ownsRow g 4 1 (.slice (some ⟨g, 0, none⟩) xs.length xs.length) xs.length (rndCells xs ls (k + 1))) := fun W U hU h => by
        subst hU
        have := own_set h k (.bool (roundAt xs ls k))
        rwa [fill_set (fun j => Value.bool (roundAt xs ls j))] at this
      rcases Classical.em (x.kind = 3) with hk3 | hk3
      · have HR := hid (HR.out hk3)
        obtain ⟨kind, size, al, to, add, lo, hi⟩ := x
        dsimp only at c0 c1 c2 c3 c4 c5 c6 hk3
        subst hk3
        have HCALL := hid (fun w1 (hr : Row w1 vp (i64s (offs xs ls))) => reaches_any ⟨3, size, al, to, add, lo, hi⟩ k vp vc (offs xs ls) w1 HR.out hr (by rw [offs_len]; omega) (xs.length + 1) (offs_len xs ls).symm)
        unfold It.val at HCALL
        dsimp only at HCALL
        cases lg
        · obtain ⟨R, hR⟩ : ∃ R, R = reachP ⟨3, size, al, to, add, lo, hi⟩ k (offs xs ls) := ⟨_, rfl⟩
          rw [← hR] at HCALL HRA
          clear hR
          have hcl := HCLW.out _ hb
          cases R
          · have HRA1 : Hid (roundAt xs ls k = true) := by simp only [Hid]; rw [HRA.out]; simp
            have HMV : Hid (moreN xs ls (k + 1) = M + 1) := by simp only [Hid]; rw [HMS.out, HMA.out, HRA1.out]; rfl
            clear HRA
            go_wp2_with (go_at_call 36; refine (HCALL.out _ (hvr.alloc _)).mono ?_; rintro e w2 ⟨rfl, hb2⟩; have hbw2 := (hb.alloc hsz _).trans (hb2.mono (by simp; omega)); have hcl2 := HCLW.out _ hbw2; have ho2 := own_below (ho.alloc _) hb2; obtain ⟨og, of, hg2⟩ := HOG.out _ ho2; have hq2 : qb < w2.heap.size := by have := hbw2.size; omega)
            go_roundw
            case rel => exact ⟨k + 1, by omega, by go_num, by rw [HMV.out]; go_num, HFIN.out _ _ HRA1.out ho2, ((hvr.alloc _).below hb2).set_other _ _ HVG.out, hbw2.setCell (p := ⟨g, k, none⟩) hgw _⟩
            case measure => simp [intOf]; omega
          · have HRA1 : Hid (roundAt xs ls k = false) := by simp only [Hid]; rw [HRA.out]; simp
            have HMV : Hid (moreN xs ls (k + 1) = M) := by simp only [Hid]; rw [HMS.out, HMA.out, HRA1.out]; rfl
            clear HRA
            go_wp2_with (go_at_call 36; refine (HCALL.out _ (hvr.alloc _)).mono ?_; rintro e w2 ⟨rfl, hb2⟩; have hbw2 := (hb.alloc hsz _).trans (hb2.mono (by simp; omega)); have hcl2 := HCLW.out _ hbw2; have ho2 := own_below (ho.alloc _) hb2; obtain ⟨og, of, hg2⟩ := HOG.out _ ho2; have hq2 : qb < w2.heap.size := by have := hbw2.size; omega)
            go_roundw
            case rel => exact ⟨k + 1, by omega, by go_num, by rw [HMV.out], HFIN.out _ _ HRA1.out ho2, ((hvr.alloc _).below hb2).set_other _ _ HVG.out, hbw2.setCell (p := ⟨g, k, none⟩) hgw _⟩
            case measure => simp [intOf]; omega
        · have HRA1 : Hid (roundAt xs ls k = true) := by simp only [Hid]; rw [HRA.out]; simp
          have HMV : Hid (moreN xs ls (k + 1) = M) := by simp only [Hid]; rw [HMS.out, HMA.out, HRA1.out]; rfl
          clear HRA
          have hcl := HCLW.out _ hb
          obtain ⟨og, of, hg2⟩ := HOG.out _ ho
          go_wp2_with fail
          go_roundw
          case rel => exact ⟨k + 1, by omega, by go_num, by rw [HMV.out], (HFIN.out _ _ HRA1.out ho).alloc _, (hvr.set_other ⟨g, k, none⟩ _ HVG.out).alloc _, (hb.setCell (p := ⟨g, k, none⟩) hgw _).alloc (by simp; omega) _⟩
          case measure => simp [intOf]; omega
      · have HRA1 : Hid (roundAt xs ls k = false) := by simp only [Hid]; rw [HRA.out]; simp [hk3]
        have HMV : Hid (moreN xs ls (k + 1) = M) := by simp only [Hid]; rw [HMS.out, HMA.out, HRA1.out]; simp
        have HSK : Hid (rndCells xs ls k = rndCells xs ls (k + 1)) := fill_skip _ _ _ _ (by rw [HRA1.out])
        have e3 : (x.kind != 3) = true := by simpa using hk3
        clear HRA hk3
        go_wp2_with fail
        go_roundw
        case rel => exact ⟨k + 1, by omega, by go_num, by rw [HMV.out], HSK.out ▸ ho.alloc _, hvr.alloc _, hb.alloc hsz _⟩
        case measure => simp [intOf]; omega
    · have hkx : k = xs.length := by omega
      subst hkx
      go_wp2_with fail
      go_ret2
      exact ⟨_, by rw [HM.out]; rfl, by rw [← rnd_full]; exact own_lower ho hgw, hb⟩
end Go.Proofs.Ytkjiiikcillcfaa
