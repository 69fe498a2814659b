/-
  The law's own few.
-/
import Derived.Test.YthmockfeffikjaaJE16
namespace Go.Proofs.Ythmockfeffikjaa
open Go.RowKit
variable {w W : World}

/-- The first k lengths, each counted to 1000 at most. -/
def sumL {α : Type} (f : α → Nat) (ys : List α) : Nat → Nat
  | 0 => 0
  | k + 1 => sumL f ys k + (match ys[k]? with | some y => Nat.min (f y) 1000 | none => 0)
theorem sumL_succ {α : Type} (f : α → Nat) (ys : List α) (k : Nat) (h : k < ys.length) : sumL f ys (k + 1) = sumL f ys k + Nat.min (f ys[k]) 1000 := by simp only [sumL, List.getElem?_eq_getElem h]
theorem sumL_le {α : Type} (f : α → Nat) (ys : List α) : ∀ k, k ≤ ys.length → sumL f ys k ≤ 1000 * k
  | 0, _ => by simp [sumL]
  | k + 1, h => by
    have h1 := sumL_le f ys k (by omega)
    have h2 : Nat.min (f ys[k]) 1000 ≤ 1000 := Nat.min_le_right _ _
    rw [sumL_succ f ys k (by omega)]
    omega
def lenW : List Ac → Nat := List.length
def lenC : CeR → Nat := fun z => z.x.came.length
def fewS (zs : List CeR) (work : List (List Ac)) (ps : List Int) : Bool :=
  decide (work.length ≤ 70) && decide (zs.length ≤ 100) && decide (sumL lenW work (min work.length 70) + sumL lenC zs (min zs.length 100) ≤ 1000) && decide (ps.length ≤ 2000)
theorem min_cast (a b : Nat) : ∃ n : Nat, n = min a b ∧ min (a : Int) (b : Int) = n ∧ n ≤ a ∧ n ≤ b := ⟨min a b, rfl, by omega, by omega, by omega⟩

set_option maxRecDepth 20000 in
set_option maxHeartbeats 4000000 in
theorem fewS_any (cp : Option Addr) (cc : Nat) (zs : List CeR) (hcc : zs.length ≤ cc) (hcm : cc ≤ maxLen) (hcr : Row w cp (ceRow zs)) (wp : Option Addr) (wc : Nat) (qs : List (Option Addr × Nat)) (work : List (List Ac)) (fw : Nat → Prop) (WI : WorkIs w wp wc qs work fw) (kp : Option Addr) (kc : Nat) (ps : List Int) (hkc : ps.length ≤ kc) (hkm : kc ≤ maxLen) (hlw : ∀ l ∈ work, l.length ≤ 9223372036854775807) (hlc : ∀ z ∈ zs, z.x.came.length ≤ 9223372036854775807) :
    Calls Try.prog 13 #[.agg #[.slice cp zs.length cc, .slice wp work.length wc, .slice kp ps.length kc]] w fun e w' => e = .returned (.bool (fewS zs work ps)) ∧ Below w.heap.size w w' := by
  obtain ⟨n1, hn1, hm1, ha1, hb1⟩ := min_cast work.length 70
  obtain ⟨n2, hn2, hm2, ha2, hb2⟩ := min_cast zs.length 100
  have HF : Hid (fewS zs work ps = (decide (work.length ≤ 70) && decide (zs.length ≤ 100) && decide (sumL lenW work n1 + sumL lenC zs n2 ≤ 1000) && decide (ps.length ≤ 2000))) := by unfold Hid fewS; rw [hn1, hn2]
  have hm1 : min (work.length : Int) 70 = n1 := hm1
  have hm2 : min (zs.length : Int) 100 = n2 := hm2
  have HN := hid (And.intro hn1 hn2)
  have HWI := hid WI
  have HLW := hid hlw
  have HLC := hid hlc
  have HCR := hid hcr
  have hwc := WI.c
  unfold maxLen at hcm hkm hwc
  obtain ⟨hwc1, hwc2⟩ := hwc
  clear hn1 hn2 WI hlw hlc hcr
  obtain ⟨w0, hw0⟩ : ∃ w0, w0 = w.alloc (.cells #[.slice cp zs.length cc, .slice wp work.length wc, .slice kp ps.length kc] 28) := ⟨_, rfl⟩
  have HX : Hid (w0.heap[w.heap.size]? = some (.cells #[.slice cp zs.length cc, .slice wp work.length wc, .slice kp ps.length kc] 28 (0, 0))) := by rw [hw0]; exact heap_alloc_new _ _
  have HB0 : Hid (Below w.heap.size w w0) := by rw [hw0]; exact (Below.refl _ _).alloc (Nat.le_refl _) _
  have hl0 : w.heap.size < w0.heap.size := (Array.getElem?_eq_some_iff.1 HX.out).1
  have hz0 := HB0.out.size
  have y0 : w0.cell? ⟨w.heap.size, 0, none⟩ = some (.slice cp zs.length cc) := cell_of_row _ _ 0 _ _ _ HX.out
  have y1 : w0.cell? ⟨w.heap.size, 1, none⟩ = some (.slice wp work.length wc) := cell_of_row _ _ 1 _ _ _ HX.out
  have y2 : w0.cell? ⟨w.heap.size, 2, none⟩ = some (.slice kp ps.length kc) := cell_of_row _ _ 2 _ _ _ HX.out
  by_cases hlw : work.length ≤ 70
  · go_enter Try.func13, Try.ntmps13
    go_wp2
    rw [← hw0]
    clear hw0 hm1 hm2
    have HF1 : Hid (n1 = work.length) := by have := HN.out.1; show n1 = work.length; omega
    have hn1e := HF1.out
    subst hn1e
    go_loopw [3, 16] (fun n i wr => ∃ k : Nat, k ≤ work.length ∧ i = .int .i64 k ∧ n = .int .i64 (sumL lenW work k) ∧ w0 = wr) (fun _ i _ => work.length - (intOf i).toNat)
    case atStart => exact ⟨0, Nat.zero_le _, rfl, rfl, rfl⟩
    case round =>
      obtain ⟨k, hk, rfl, rfl, rfl⟩ := hrel
      by_cases hlt : k < work.length
      · have hlt2 : k < work.length := by omega
        have hsl := sumL_le lenW work k (by omega)
        have HSS := hid (sumL_succ lenW work k hlt2)
        obtain ⟨S, hS⟩ : ∃ S, S = sumL lenW work k := ⟨_, rfl⟩
        rw [← hS] at hsl HSS ⊢
        clear hS
        have hwl := wkCells_len qs work HWI.out.len
        obtain ⟨b, off, rfl, hbs, hzz⟩ := (HWI.out.row.below HB0.out).at (by omega)
        have hcell := hzz k (by omega)
        have hgk := wkCells_get qs work k (by have := HWI.out.len; omega) hlt2
        rw [List.getElem?_eq_getElem (by omega)] at hgk
        injection hgk with hgk
        rw [hgk] at hcell
        have hly := HLW.out _ (List.getElem_mem hlt2)
        obtain ⟨L, hL⟩ : ∃ L, L = work[k].length := ⟨_, rfl⟩
        have HSS : Hid (sumL lenW work (k + 1) = S + Nat.min L 1000) := by rw [hL]; exact HSS.out
        rw [← hL] at hcell hly
        clear hL hgk hzz
        by_cases h1 : L ≤ 1000
        · have HS2 : Hid (sumL lenW work (k + 1) = S + L) := by rw [Hid, HSS.out]; congr 1; exact Nat.min_eq_left h1
          clear HSS
          go_wp2
          go_roundw
          case rel => exact ⟨k + 1, by omega, by go_num, by rw [HS2.out]; go_num, (by first | rfl | trivial)⟩
          case measure => simp [intOf]; omega
        · have h2 : 1000 ≤ L := by omega
          have HS2 : Hid (sumL lenW work (k + 1) = S + 1000) := by rw [Hid, HSS.out]; congr 1; exact Nat.min_eq_right h2
          clear HSS h1
          go_wp2
          go_roundw
          case rel => exact ⟨k + 1, by omega, by go_num, by rw [HS2.out]; go_num, (by first | rfl | trivial)⟩
          case measure => simp [intOf]; omega
      · have hkx : k = work.length := by omega
        subst hkx
        have hs1 := sumL_le lenW work work.length (by omega)
        obtain ⟨S1, hS1⟩ : ∃ S1, S1 = sumL lenW work work.length := ⟨_, rfl⟩
        rw [← hS1] at hs1 HF ⊢
        clear hS1
        by_cases hlc : zs.length ≤ 100
        · have hn2e : n2 = zs.length := by have := HN.out.2; omega
          subst hn2e
          go_wp2
          go_loopw [3, 34] (fun n i wr => ∃ k : Nat, k ≤ zs.length ∧ i = .int .i64 k ∧ n = .int .i64 ((S1 + sumL lenC zs k : Nat) : Int) ∧ Below w0.heap.size w0 wr) (fun _ i _ => zs.length - (intOf i).toNat)
          case atStart => exact ⟨0, Nat.zero_le _, rfl, rfl, Below.refl _ _⟩
          case round =>
            obtain ⟨k, hk, rfl, rfl, hb⟩ := hrel
            have hsz := hb.size
            have HBK := hid hb
            have hx := (hb.block _ hl0).trans HX.out
            have x0 : wr.cell? ⟨w.heap.size, 0, none⟩ = some (.slice cp zs.length cc) := cell_of_row _ _ 0 _ _ _ hx
            have x1 : wr.cell? ⟨w.heap.size, 1, none⟩ = some (.slice wp work.length wc) := cell_of_row _ _ 1 _ _ _ hx
            have x2 : wr.cell? ⟨w.heap.size, 2, none⟩ = some (.slice kp ps.length kc) := cell_of_row _ _ 2 _ _ _ hx
            clear hx
            by_cases hlt : k < zs.length
            · have hlt2 : k < zs.length := by omega
              have hsl := sumL_le lenC zs k (by omega)
              have HSS := hid (sumL_succ lenC zs k hlt2)
              obtain ⟨S, hS⟩ : ∃ S, S = sumL lenC zs k := ⟨_, rfl⟩
              rw [← hS] at hsl HSS ⊢
              clear hS
              obtain ⟨b, off, rfl, hbs, hzz⟩ := HCR.out.at (by have := ceRow_len zs; omega)
              clear hzz
              obtain ⟨c0, c1, c2, c3, c4, c5, c6⟩ := ce_cells (HCR.out.below (HB0.out.trans (hb.mono hz0))) k hlt2
              have hly := HLC.out _ (List.getElem_mem hlt2)
              obtain ⟨y, hy⟩ : ∃ y, y = zs[k] := ⟨_, rfl⟩
              rw [← hy] at c0 c1 c2 c3 c4 c5 c6 HSS hly
              clear hy
              obtain ⟨L, hL⟩ : ∃ L, L = y.x.came.length := ⟨_, rfl⟩
              have HSS : Hid (sumL lenC zs (k + 1) = S + Nat.min L 1000) := by rw [hL]; exact HSS.out
              rw [← hL] at c4 hly
              clear hL
              by_cases h1 : L ≤ 1000
              · have HS2 : Hid (sumL lenC zs (k + 1) = S + L) := by rw [Hid, HSS.out]; congr 1; exact Nat.min_eq_left h1
                clear HSS
                go_wp2
                go_roundw
                case rel => exact ⟨k + 1, by omega, by go_num, by rw [HS2.out]; go_num, HBK.out.alloc HBK.out.size _⟩
                case measure => simp [intOf]; omega
              · have h2 : 1000 ≤ L := by omega
                have HS2 : Hid (sumL lenC zs (k + 1) = S + 1000) := by rw [Hid, HSS.out]; congr 1; exact Nat.min_eq_right h2
                clear HSS h1
                go_wp2
                go_roundw
                case rel => exact ⟨k + 1, by omega, by go_num, by rw [HS2.out]; go_num, HBK.out.alloc HBK.out.size _⟩
                case measure => simp [intOf]; omega
            · have hkx : k = zs.length := by omega
              subst hkx
              have hsl := sumL_le lenC zs zs.length (by omega)
              have HFF : Hid (fewS zs work ps = (decide (work.length ≤ 70) && decide (zs.length ≤ 100) && decide (S1 + sumL lenC zs zs.length ≤ 1000) && decide (ps.length ≤ 2000))) := HF.out
              obtain ⟨S2, hS2⟩ : ∃ S2, S2 = sumL lenC zs zs.length := ⟨_, rfl⟩
              rw [← hS2] at hsl HFF ⊢
              clear hS2
              go_wp2
              all_goals
                go_ret
                refine ⟨ret_bool ?_, HB0.out.trans (HBK.out.mono hz0)⟩
                rw [HFF.out]
                clear HFF
                first
                  | (simp; done)
                  | (simp; omega)
                  | (simp_all; done)
                  | (rw [decide_eq_true (show work.length ≤ 70 by omega), decide_eq_true (show zs.length ≤ 100 by omega), decide_eq_true (show S1 + S2 ≤ 1000 by omega)]; simp only [Bool.true_and]; rw [decide_eq_decide]; omega)
        · have hn2e : n2 = 100 := by have := HN.out.2; omega
          subst hn2e
          have hlc2 : 100 < zs.length := by omega
          go_wp2
          go_loopw [3, 34] (fun n i wr => ∃ k : Nat, k ≤ 100 ∧ i = .int .i64 k ∧ n = .int .i64 ((S1 + sumL lenC zs k : Nat) : Int) ∧ Below w0.heap.size w0 wr) (fun _ i _ => 100 - (intOf i).toNat)
          case atStart => exact ⟨0, Nat.zero_le _, rfl, rfl, Below.refl _ _⟩
          case round =>
            obtain ⟨k, hk, rfl, rfl, hb⟩ := hrel
            have hsz := hb.size
            have HBK := hid hb
            have hx := (hb.block _ hl0).trans HX.out
            have x0 : wr.cell? ⟨w.heap.size, 0, none⟩ = some (.slice cp zs.length cc) := cell_of_row _ _ 0 _ _ _ hx
            have x1 : wr.cell? ⟨w.heap.size, 1, none⟩ = some (.slice wp work.length wc) := cell_of_row _ _ 1 _ _ _ hx
            have x2 : wr.cell? ⟨w.heap.size, 2, none⟩ = some (.slice kp ps.length kc) := cell_of_row _ _ 2 _ _ _ hx
            clear hx
            by_cases hlt : k < 100
            · have hlt2 : k < zs.length := by omega
              have hsl := sumL_le lenC zs k (by omega)
              have HSS := hid (sumL_succ lenC zs k hlt2)
              obtain ⟨S, hS⟩ : ∃ S, S = sumL lenC zs k := ⟨_, rfl⟩
              rw [← hS] at hsl HSS ⊢
              clear hS
              obtain ⟨b, off, rfl, hbs, hzz⟩ := HCR.out.at (by have := ceRow_len zs; omega)
              clear hzz
              obtain ⟨c0, c1, c2, c3, c4, c5, c6⟩ := ce_cells (HCR.out.below (HB0.out.trans (hb.mono hz0))) k hlt2
              have hly := HLC.out _ (List.getElem_mem hlt2)
              obtain ⟨y, hy⟩ : ∃ y, y = zs[k] := ⟨_, rfl⟩
              rw [← hy] at c0 c1 c2 c3 c4 c5 c6 HSS hly
              clear hy
              obtain ⟨L, hL⟩ : ∃ L, L = y.x.came.length := ⟨_, rfl⟩
              have HSS : Hid (sumL lenC zs (k + 1) = S + Nat.min L 1000) := by rw [hL]; exact HSS.out
              rw [← hL] at c4 hly
              clear hL
              by_cases h1 : L ≤ 1000
              · have HS2 : Hid (sumL lenC zs (k + 1) = S + L) := by rw [Hid, HSS.out]; congr 1; exact Nat.min_eq_left h1
                clear HSS
                go_wp2
                go_roundw
                case rel => exact ⟨k + 1, by omega, by go_num, by rw [HS2.out]; go_num, HBK.out.alloc HBK.out.size _⟩
                case measure => simp [intOf]; omega
              · have h2 : 1000 ≤ L := by omega
                have HS2 : Hid (sumL lenC zs (k + 1) = S + 1000) := by rw [Hid, HSS.out]; congr 1; exact Nat.min_eq_right h2
                clear HSS h1
                go_wp2
                go_roundw
                case rel => exact ⟨k + 1, by omega, by go_num, by rw [HS2.out]; go_num, HBK.out.alloc HBK.out.size _⟩
                case measure => simp [intOf]; omega
            · have hkx : k = 100 := by omega
              subst hkx
              have hsl := sumL_le lenC zs 100 (by omega)
              have HFF : Hid (fewS zs work ps = (decide (work.length ≤ 70) && decide (zs.length ≤ 100) && decide (S1 + sumL lenC zs 100 ≤ 1000) && decide (ps.length ≤ 2000))) := HF.out
              obtain ⟨S2, hS2⟩ : ∃ S2, S2 = sumL lenC zs 100 := ⟨_, rfl⟩
              rw [← hS2] at hsl HFF ⊢
              clear hS2
              go_wp2
              all_goals
                go_ret
                refine ⟨ret_bool ?_, HB0.out.trans (HBK.out.mono hz0)⟩
                rw [HFF.out]
                clear HFF
                first
                  | (simp; done)
                  | (simp; omega)
                  | (simp_all; done)
                  | (rw [decide_eq_true (show work.length ≤ 70 by omega), decide_eq_true (show zs.length ≤ 100 by omega), decide_eq_true (show S1 + S2 ≤ 1000 by omega)]; simp only [Bool.true_and]; rw [decide_eq_decide]; omega)
  · have hlw2 : 70 < work.length := by omega
    go_enter Try.func13, Try.ntmps13
    go_wp2
    rw [← hw0]
    clear hw0 hm1 hm2
    have HF1 : Hid (n1 = 70) := by have := HN.out.1; show n1 = 70; omega
    have hn1e := HF1.out
    subst hn1e
    go_loopw [3, 16] (fun n i wr => ∃ k : Nat, k ≤ 70 ∧ i = .int .i64 k ∧ n = .int .i64 (sumL lenW work k) ∧ w0 = wr) (fun _ i _ => 70 - (intOf i).toNat)
    case atStart => exact ⟨0, Nat.zero_le _, rfl, rfl, rfl⟩
    case round =>
      obtain ⟨k, hk, rfl, rfl, rfl⟩ := hrel
      by_cases hlt : k < 70
      · have hlt2 : k < work.length := by omega
        have hsl := sumL_le lenW work k (by omega)
        have HSS := hid (sumL_succ lenW work k hlt2)
        obtain ⟨S, hS⟩ : ∃ S, S = sumL lenW work k := ⟨_, rfl⟩
        rw [← hS] at hsl HSS ⊢
        clear hS
        have hwl := wkCells_len qs work HWI.out.len
        obtain ⟨b, off, rfl, hbs, hzz⟩ := (HWI.out.row.below HB0.out).at (by omega)
        have hcell := hzz k (by omega)
        have hgk := wkCells_get qs work k (by have := HWI.out.len; omega) hlt2
        rw [List.getElem?_eq_getElem (by omega)] at hgk
        injection hgk with hgk
        rw [hgk] at hcell
        have hly := HLW.out _ (List.getElem_mem hlt2)
        obtain ⟨L, hL⟩ : ∃ L, L = work[k].length := ⟨_, rfl⟩
        have HSS : Hid (sumL lenW work (k + 1) = S + Nat.min L 1000) := by rw [hL]; exact HSS.out
        rw [← hL] at hcell hly
        clear hL hgk hzz
        by_cases h1 : L ≤ 1000
        · have HS2 : Hid (sumL lenW work (k + 1) = S + L) := by rw [Hid, HSS.out]; congr 1; exact Nat.min_eq_left h1
          clear HSS
          go_wp2
          go_roundw
          case rel => exact ⟨k + 1, by omega, by go_num, by rw [HS2.out]; go_num, (by first | rfl | trivial)⟩
          case measure => simp [intOf]; omega
        · have h2 : 1000 ≤ L := by omega
          have HS2 : Hid (sumL lenW work (k + 1) = S + 1000) := by rw [Hid, HSS.out]; congr 1; exact Nat.min_eq_right h2
          clear HSS h1
          go_wp2
          go_roundw
          case rel => exact ⟨k + 1, by omega, by go_num, by rw [HS2.out]; go_num, (by first | rfl | trivial)⟩
          case measure => simp [intOf]; omega
      · have hkx : k = 70 := by omega
        subst hkx
        have hs1 := sumL_le lenW work 70 (by omega)
        obtain ⟨S1, hS1⟩ : ∃ S1, S1 = sumL lenW work 70 := ⟨_, rfl⟩
        rw [← hS1] at hs1 HF ⊢
        clear hS1
        by_cases hlc : zs.length ≤ 100
        · have hn2e : n2 = zs.length := by have := HN.out.2; omega
          subst hn2e
          go_wp2
          go_loopw [3, 34] (fun n i wr => ∃ k : Nat, k ≤ zs.length ∧ i = .int .i64 k ∧ n = .int .i64 ((S1 + sumL lenC zs k : Nat) : Int) ∧ Below w0.heap.size w0 wr) (fun _ i _ => zs.length - (intOf i).toNat)
          case atStart => exact ⟨0, Nat.zero_le _, rfl, rfl, Below.refl _ _⟩
          case round =>
            obtain ⟨k, hk, rfl, rfl, hb⟩ := hrel
            have hsz := hb.size
            have HBK := hid hb
            have hx := (hb.block _ hl0).trans HX.out
            have x0 : wr.cell? ⟨w.heap.size, 0, none⟩ = some (.slice cp zs.length cc) := cell_of_row _ _ 0 _ _ _ hx
            have x1 : wr.cell? ⟨w.heap.size, 1, none⟩ = some (.slice wp work.length wc) := cell_of_row _ _ 1 _ _ _ hx
            have x2 : wr.cell? ⟨w.heap.size, 2, none⟩ = some (.slice kp ps.length kc) := cell_of_row _ _ 2 _ _ _ hx
            clear hx
            by_cases hlt : k < zs.length
            · have hlt2 : k < zs.length := by omega
              have hsl := sumL_le lenC zs k (by omega)
              have HSS := hid (sumL_succ lenC zs k hlt2)
              obtain ⟨S, hS⟩ : ∃ S, S = sumL lenC zs k := ⟨_, rfl⟩
              rw [← hS] at hsl HSS ⊢
              clear hS
              obtain ⟨b, off, rfl, hbs, hzz⟩ := HCR.out.at (by have := ceRow_len zs; omega)
              clear hzz
              obtain ⟨c0, c1, c2, c3, c4, c5, c6⟩ := ce_cells (HCR.out.below (HB0.out.trans (hb.mono hz0))) k hlt2
              have hly := HLC.out _ (List.getElem_mem hlt2)
              obtain ⟨y, hy⟩ : ∃ y, y = zs[k] := ⟨_, rfl⟩
              rw [← hy] at c0 c1 c2 c3 c4 c5 c6 HSS hly
              clear hy
              obtain ⟨L, hL⟩ : ∃ L, L = y.x.came.length := ⟨_, rfl⟩
              have HSS : Hid (sumL lenC zs (k + 1) = S + Nat.min L 1000) := by rw [hL]; exact HSS.out
              rw [← hL] at c4 hly
              clear hL
              by_cases h1 : L ≤ 1000
              · have HS2 : Hid (sumL lenC zs (k + 1) = S + L) := by rw [Hid, HSS.out]; congr 1; exact Nat.min_eq_left h1
                clear HSS
                go_wp2
                go_roundw
                case rel => exact ⟨k + 1, by omega, by go_num, by rw [HS2.out]; go_num, HBK.out.alloc HBK.out.size _⟩
                case measure => simp [intOf]; omega
              · have h2 : 1000 ≤ L := by omega
                have HS2 : Hid (sumL lenC zs (k + 1) = S + 1000) := by rw [Hid, HSS.out]; congr 1; exact Nat.min_eq_right h2
                clear HSS h1
                go_wp2
                go_roundw
                case rel => exact ⟨k + 1, by omega, by go_num, by rw [HS2.out]; go_num, HBK.out.alloc HBK.out.size _⟩
                case measure => simp [intOf]; omega
            · have hkx : k = zs.length := by omega
              subst hkx
              have hsl := sumL_le lenC zs zs.length (by omega)
              have HFF : Hid (fewS zs work ps = (decide (work.length ≤ 70) && decide (zs.length ≤ 100) && decide (S1 + sumL lenC zs zs.length ≤ 1000) && decide (ps.length ≤ 2000))) := HF.out
              obtain ⟨S2, hS2⟩ : ∃ S2, S2 = sumL lenC zs zs.length := ⟨_, rfl⟩
              rw [← hS2] at hsl HFF ⊢
              clear hS2
              go_wp2
              all_goals
                go_ret
                refine ⟨ret_bool ?_, HB0.out.trans (HBK.out.mono hz0)⟩
                rw [HFF.out]
                clear HFF
                first
                  | (simp; done)
                  | (simp; omega)
                  | (simp_all; done)
                  | (rw [decide_eq_true (show work.length ≤ 70 by omega), decide_eq_true (show zs.length ≤ 100 by omega), decide_eq_true (show S1 + S2 ≤ 1000 by omega)]; simp only [Bool.true_and]; rw [decide_eq_decide]; omega)
        · have hn2e : n2 = 100 := by have := HN.out.2; omega
          subst hn2e
          have hlc2 : 100 < zs.length := by omega
          go_wp2
          go_loopw [3, 34] (fun n i wr => ∃ k : Nat, k ≤ 100 ∧ i = .int .i64 k ∧ n = .int .i64 ((S1 + sumL lenC zs k : Nat) : Int) ∧ Below w0.heap.size w0 wr) (fun _ i _ => 100 - (intOf i).toNat)
          case atStart => exact ⟨0, Nat.zero_le _, rfl, rfl, Below.refl _ _⟩
          case round =>
            obtain ⟨k, hk, rfl, rfl, hb⟩ := hrel
            have hsz := hb.size
            have HBK := hid hb
            have hx := (hb.block _ hl0).trans HX.out
            have x0 : wr.cell? ⟨w.heap.size, 0, none⟩ = some (.slice cp zs.length cc) := cell_of_row _ _ 0 _ _ _ hx
            have x1 : wr.cell? ⟨w.heap.size, 1, none⟩ = some (.slice wp work.length wc) := cell_of_row _ _ 1 _ _ _ hx
            have x2 : wr.cell? ⟨w.heap.size, 2, none⟩ = some (.slice kp ps.length kc) := cell_of_row _ _ 2 _ _ _ hx
            clear hx
            by_cases hlt : k < 100
            · have hlt2 : k < zs.length := by omega
              have hsl := sumL_le lenC zs k (by omega)
              have HSS := hid (sumL_succ lenC zs k hlt2)
              obtain ⟨S, hS⟩ : ∃ S, S = sumL lenC zs k := ⟨_, rfl⟩
              rw [← hS] at hsl HSS ⊢
              clear hS
              obtain ⟨b, off, rfl, hbs, hzz⟩ := HCR.out.at (by have := ceRow_len zs; omega)
              clear hzz
              obtain ⟨c0, c1, c2, c3, c4, c5, c6⟩ := ce_cells (HCR.out.below (HB0.out.trans (hb.mono hz0))) k hlt2
              have hly := HLC.out _ (List.getElem_mem hlt2)
              obtain ⟨y, hy⟩ : ∃ y, y = zs[k] := ⟨_, rfl⟩
              rw [← hy] at c0 c1 c2 c3 c4 c5 c6 HSS hly
              clear hy
              obtain ⟨L, hL⟩ : ∃ L, L = y.x.came.length := ⟨_, rfl⟩
              have HSS : Hid (sumL lenC zs (k + 1) = S + Nat.min L 1000) := by rw [hL]; exact HSS.out
              rw [← hL] at c4 hly
              clear hL
              by_cases h1 : L ≤ 1000
              · have HS2 : Hid (sumL lenC zs (k + 1) = S + L) := by rw [Hid, HSS.out]; congr 1; exact Nat.min_eq_left h1
                clear HSS
                go_wp2
                go_roundw
                case rel => exact ⟨k + 1, by omega, by go_num, by rw [HS2.out]; go_num, HBK.out.alloc HBK.out.size _⟩
                case measure => simp [intOf]; omega
              · have h2 : 1000 ≤ L := by omega
                have HS2 : Hid (sumL lenC zs (k + 1) = S + 1000) := by rw [Hid, HSS.out]; congr 1; exact Nat.min_eq_right h2
                clear HSS h1
                go_wp2
                go_roundw
                case rel => exact ⟨k + 1, by omega, by go_num, by rw [HS2.out]; go_num, HBK.out.alloc HBK.out.size _⟩
                case measure => simp [intOf]; omega
            · have hkx : k = 100 := by omega
              subst hkx
              have hsl := sumL_le lenC zs 100 (by omega)
              have HFF : Hid (fewS zs work ps = (decide (work.length ≤ 70) && decide (zs.length ≤ 100) && decide (S1 + sumL lenC zs 100 ≤ 1000) && decide (ps.length ≤ 2000))) := HF.out
              obtain ⟨S2, hS2⟩ : ∃ S2, S2 = sumL lenC zs 100 := ⟨_, rfl⟩
              rw [← hS2] at hsl HFF ⊢
              clear hS2
              go_wp2
              all_goals
                go_ret
                refine ⟨ret_bool ?_, HB0.out.trans (HBK.out.mono hz0)⟩
                rw [HFF.out]
                clear HFF
                first
                  | (simp; done)
                  | (simp; omega)
                  | (simp_all; done)
                  | (rw [decide_eq_true (show work.length ≤ 70 by omega), decide_eq_true (show zs.length ≤ 100 by omega), decide_eq_true (show S1 + S2 ≤ 1000 by omega)]; simp only [Bool.true_and]; rw [decide_eq_decide]; omega)
end Go.Proofs.Ythmockfeffikjaa
