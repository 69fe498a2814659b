/-
  The walk of SchedEnds: the setup that it makes.
-/
import Derived.Test.YthmockfeffikjaaJE27
import Derived.Test.YthmockfeffikjaaJE28
namespace Go.Proofs.Ythmockfeffikjaa
open Go.RowKit

def ulV (z : Option Addr × Nat × List Int) : List Value := [.slice z.1 z.2.2.length z.2.1]
def UlOk (W : World) (z : Option Addr × Nat × List Int) : Prop := z.2.2.length ≤ z.2.1 ∧ z.2.1 ≤ maxLen ∧ (z.1 = none → z.2.1 = 0) ∧ Row W z.1 (z.2.2.map (Value.int .u8)) ∧ (∀ n ∈ z.2.2, (Lit.int .u8 n).wf = true)
/-- What a worker's list comes to. -/
def bytesOf (l : List Int) : List Nat := (l.take 20).map Int.toNat
def listsOf (xs : List (Option Addr × Nat × List Int)) : List (List Nat) := xs.map (fun x => bytesOf x.2.2)
theorem listsOf_len (xs : List (Option Addr × Nat × List Int)) : (listsOf xs).length = xs.length := by simp [listsOf]
def workOf (n : Nat) (xs : List (Option Addr × Nat × List Int)) : List (List Ac) := (listsOf xs).map (accs n)
theorem workOf_len (n : Nat) (xs : List (Option Addr × Nat × List Int)) : (workOf n xs).length = xs.length := by simp [workOf, listsOf]
theorem workOf_get (n : Nat) (xs : List (Option Addr × Nat × List Int)) (k : Nat) (h : k < (workOf n xs).length) (h2 : k < xs.length) : (workOf n xs)[k] = accs n (bytesOf xs[k].2.2) := by simp [workOf, listsOf]
theorem accs_snoc (n : Nat) (l : List Nat) (j : Nat) (h : j < l.length) : accs n (l.take (j + 1)) = accs n (l.take j) ++ chunk n (l[j] % n) := by
  unfold accs
  rw [take_succ l j h, List.flatMap_append]; simp
theorem accs_len (n : Nat) (l : List Nat) : (accs n l).length ≤ 2 * n * l.length := by
  induction l with
  | nil => simp [accs]
  | cons x l ih =>
    have e : accs n (x :: l) = chunk n (x % n) ++ accs n l := rfl
    rw [e, List.length_append, chunk_len, List.length_cons, Nat.mul_add]
    omega
theorem bytesOf_len (l : List Int) : (bytesOf l).length = min l.length 20 := by simp [bytesOf]; omega
theorem locks_snoc {f m : Nat} (h : f ≤ m) : locks (m + 1) f = locks m f ++ [lockA m] := by
  unfold locks
  rw [show m + 1 - f = (m - f) + 1 by omega, List.range'_concat, List.map_append, show f + 1 * (m - f) = m by omega]
  rfl
theorem frees_snoc {f m : Nat} (h : f ≤ m) : frees (m + 1) f = frees m f ++ [freeA m] := by
  unfold frees
  rw [show m + 1 - f = (m - f) + 1 by omega, List.range'_concat, List.map_append, show f + 1 * (m - f) = m by omega]
  rfl
theorem totW_snoc (work : List (List Ac)) (k : Nat) (h : k < work.length) : totW (work.take (k + 1)) = totW (work.take k) + work[k].length := by
  unfold totW
  rw [take_succ work k h, List.map_append, List.sum_append]; simp
theorem totW_le (B : Nat) : ∀ work : List (List Ac), (∀ l ∈ work, l.length ≤ B) → totW work ≤ B * work.length
  | [], _ => by simp [totW]
  | l :: work, h => by
    have h1 := h l (List.mem_cons_self ..)
    have h2 := totW_le B work (fun x hx => h x (List.mem_cons_of_mem _ hx))
    have e : totW (l :: work) = l.length + totW work := by simp [totW]
    rw [e, List.length_cons, Nat.mul_add]
    omega
theorem workOf_short {n : Nat} (hn : n ≤ 4) (xs : List (Option Addr × Nat × List Int)) : ∀ l ∈ workOf n xs, l.length ≤ 160 := by
  intro l hl
  obtain ⟨y, hy, rfl⟩ := List.mem_map.1 hl
  obtain ⟨x, hx, rfl⟩ := List.mem_map.1 hy
  have h1 := accs_len n (bytesOf x.2.2)
  have h2 := bytesOf_len x.2.2
  have h3 : 2 * n * (bytesOf x.2.2).length ≤ 8 * 20 := Nat.mul_le_mul (by omega) (by omega)
  omega

theorem ac4_one (a : Ac) : ∀ u ∈ Ac.cells4 a, u.oneCell' = true := by
  intro u hu
  simp [Ac.cells4] at hu
  rcases hu with rfl | rfl | rfl | rfl <;> rfl
theorem bytesOf_get (l : List Int) (r : Nat) (h : r < (bytesOf l).length) (h2 : r < l.length) : (bytesOf l)[r] = l[r].toNat := by simp [bytesOf]
set_option maxRecDepth 100000 in
set_option maxHeartbeats 8000000 in
theorem ends_core (w : World) (a : Nat) (ha : a < 256) (p : Option Addr) (c : Nat) (xs : List (Option Addr × Nat × List Int)) (hxc : xs.length ≤ c ∧ c ≤ maxLen) (hrow : Row w p (xs.flatMap ulV)) (hok : ∀ x ∈ xs, UlOk w x)
    (q : Option Addr) (d : Nat) (ps : List Int) (hpd : ps.length ≤ d ∧ d ≤ maxLen) (hprow : Row w q (ints64 ps)) (h20 : xs.length ≤ 20) (h2000 : ps.length ≤ 2000) :
    Calls Try.prog 3 #[.int .u8 (a : Int), .slice p xs.length c, .slice q ps.length d] w fun e w' => e = .returned (.bool true) ∧ Below w.heap.size w w' := by
  have HLV := hid live_any
  have HROW := hid hrow
  have HOK := hid hok
  have HPR := hid hprow
  have h20I : ¬ (20 < (xs.length : Int)) := by omega
  have h2000I : ¬ (2000 < (ps.length : Int)) := by omega
  obtain ⟨n, hn⟩ : ∃ n, n = a % 4 + 1 := ⟨_, rfl⟩
  have hn1 : 1 ≤ n := by omega
  have hn4 : n ≤ 4 := by omega
  have htm : Int.tmod (a : Int) 4 = ((a % 4 : Nat) : Int) := by rfl
  clear hrow hok hprow
  go_enter Try.func3, Try.ntmps3
  go_wp2_with (go_at_call 9; (with_reducible refine (HLV.out _).mono ?_); rintro e w1 ⟨rfl, hb1⟩; have HB1 := hid hb1; clear hb1)
  have hN : (a : Int) % 4 + 1 = (n : Int) := by omega
  rw [hN]
  obtain ⟨Wx, hWx⟩ : ∃ Wx, Wx = w1.alloc (.cells #[.slice none 0 0, .slice none 0 0, .slice q ps.length d] 28) := ⟨_, rfl⟩
  rw [← hWx]
  have hzx : Wx.heap.size = w1.heap.size + 1 := by rw [hWx]; simp
  have HH0 : Hid (Wx.heap[w1.heap.size]? = some (.cells #[.slice none 0 0, .slice none 0 0, .slice q ps.length d] 28 (0, 0))) := by rw [hWx]; exact heap_alloc_new _ _
  have hbx : Below w.heap.size w Wx := by rw [hWx]; exact HB1.out.alloc HB1.out.size _
  have HBX := hid hbx
  have hz1 : w.heap.size ≤ w1.heap.size := HB1.out.size
  clear hWx hbx hN htm hn ha
  go_loopw [38] (fun i wr => ∃ (k : Nat) (cv : Value), k ≤ n ∧ i = .int .i64 k ∧ CLI Wx w1.heap.size (.slice q ps.length d) k wr cv) (fun i _ => n - (intOf i).toNat)
  case atStart => exact ⟨0, .slice none 0 0, Nat.zero_le _, rfl, cli_start HH0.out⟩
  case round =>
    clear HH0
    obtain ⟨k, cv, hk, rfl, hcl⟩ := hrel
    have HCL := hid hcl
    have HHD := hid hcl.head
    have d0 : wr.cell? ⟨w1.heap.size, 0, none⟩ = some cv := cell_of_row _ _ 0 _ _ _ hcl.head
    have hXr : w1.heap.size < wr.heap.size := by have := hcl.turn.size; omega
    have hzr : Wx.heap.size ≤ wr.heap.size := hcl.turn.size
    clear hcl
    by_cases hlt : k < n
    · have hltI : (k : Int) < n := by omega
      go_wp2_with (first
        | ((with_reducible show wpList _ _ _ (⟨some 44, _, _, _, _, _⟩ :: _) _ _); go_loud (refine wpList_app ECell rfl _ _ rfl Wx.heap.size cv k (ceRow (List.replicate k lk0)) rfl ((HCL.out.own).alloc _) _ 1 1 (CeR.cells lk0) rfl rfl (by simp) (row_newAt _ _ _ _ (by simp)) (ceCells_one _) (by unfold maxLen; omega) (by omega) (by simp; omega) ?_); intro v4 w4 ho4 hg4 hs4; obtain ⟨vp4, vc4, rfl, _⟩ := own_row ho4; have HD4 : Hid (w4.heap[w1.heap.size]? = some (.cells #[cv, .slice none 0 0, .slice q ps.length d] 28 (0, 0))) := (hg4.block _ (by simp; omega) (fun e => by have := own_ge HCL.out.own w1.heap.size e.symm; omega)).trans ((Below.heap_alloc _ _ _ (by omega)).trans HHD.out); have d4 : w4.cell? ⟨w1.heap.size, 0, none⟩ = some cv := cell_of_row _ _ 0 _ _ _ HD4.out; have f4 : w4.frozen? ⟨w1.heap.size, 0, none⟩ = false := frozen_of_row _ _ _ _ _ HD4.out; have HO4 := hid ho4; have HG4 := hid hg4; have HS4 := hid hs4; clear ho4 hg4 hs4))
      all_goals
        go_roundw
        case rel => exact ⟨k + 1, .slice vp4 (k + 1) vc4, by omega, by go_num, CLI.push HCL.out (by omega) (w2 := wr.alloc (.cells (CeR.cells lk0).toArray 30)) ((Below.refl _ _).alloc (Nat.le_refl _) _) HO4.out HG4.out HS4.out (heap_setCell_same w4 w1.heap.size 0 _ _ _ HD4.out) (fun j hj => Below.heap_setCell _ _ _ _ hj) (by simp) ⟨(grown_set w4 _ _ _).os, (grown_set w4 _ _ _).tape, (grown_set w4 _ _ _).output⟩⟩
        case measure => simp [intOf]; omega
    · have hltI : ¬ ((k : Int) < n) := by omega
      obtain rfl : n = k := by omega
      go_wp2_with fail
      obtain ⟨cp, cc, rfl, hcl1, hcl2, hcl3, _⟩ := own_row HCL.out.own
      have HCR := hid hcl3
      have HCB : Hid (∀ q2, cp = some q2 → Wx.heap.size ≤ q2.block ∧ q2.block < wr.heap.size) := fun q2 e => ⟨own_ge HCL.out.own q2.block (by rw [e]; rfl), own_lt HCL.out.own q2.block (by rw [e]; rfl)⟩
      have HCC := hid (And.intro hcl1 hcl2)
      have HBY : Hid (Below w.heap.size w wr) := HCL.out.below HBX.out (by omega) (Nat.le_refl _)
      have hXn : w1.heap.size < wr.heap.size := hXr
      obtain ⟨Wy, hWy⟩ : ∃ Wy, Wy = wr := ⟨_, rfl⟩
      rw [← hWy] at HBY HCR HCB HHD hXn hzr ⊢
      clear hcl3 d0 hltI hlt hk HCL hXr hWy
      go_loopw [9, 49] (fun t i wr2 => ∃ (j : Nat) (wv : Value) (ws : List (Option Addr × Nat)), j ≤ xs.length ∧ i = .int .i64 j ∧ t = .int .i64 (totW ((workOf n xs).take j)) ∧ SUP Wy w1.heap.size (.slice cp n cc) (.slice q ps.length d) (workOf n xs) j wr2 wv ws) (fun _ i _ => xs.length - (intOf i).toNat)
      case atStart => exact ⟨0, .slice none 0 0, [], Nat.zero_le _, rfl, rfl, sup_start HHD.out⟩
      case round =>
        obtain ⟨j, wv, ws, hj, rfl, rfl, hsu⟩ := hrel
        have HSU := hid hsu
        have HD0 := hid hsu.head
        have d1 : wr.cell? ⟨w1.heap.size, 1, none⟩ = some wv := cell_of_row _ _ 1 _ _ _ hsu.head
        have hXr : w1.heap.size < wr.heap.size := by have := hsu.turn.size; omega
        have hbr : Below w.heap.size w wr := hsu.below HBY.out (by omega) (Nat.le_refl _)
        have HBR := hid hbr
        have hzy : Wy.heap.size ≤ wr.heap.size := hsu.turn.size
        clear hsu
        by_cases hlt : j < xs.length
        · have hltI : (j : Int) < xs.length := by omega
          obtain ⟨b, o, rfl, hbz, hcc⟩ := HROW.out.at (by rw [flat_len ulV 1 (fun _ => rfl)]; omega)
          have hl1 := flat_len ulV 1 (fun _ => rfl) xs
          have hcj := hcc j (by omega)
          have hfg := flat_get ulV 1 (fun _ => rfl) xs j hlt 0 (by omega)
          rw [show 1 * j + 0 = j by omega, List.getElem?_eq_getElem (by omega)] at hfg
          injection hfg with hfg
          rw [hfg] at hcj
          have hokj := HOK.out _ (List.getElem_mem hlt)
          have HWJ := hid (workOf_get n xs j (by rw [workOf_len]; exact hlt) hlt)
          have HSN := hid (totW_snoc (workOf n xs) j (by rw [workOf_len]; exact hlt))
          have HSH := hid (workOf_short hn4 xs _ (List.getElem_mem (by rw [workOf_len]; exact hlt : j < (workOf n xs).length)))
          rw [HWJ.out] at HSN HSH
          generalize xs[j] = x at *
          obtain ⟨xp, xc, l⟩ := x
          obtain ⟨a1, a2, a3, a4, a5⟩ := hokj
          dsimp only [ulV] at *
          have hcell := (hbr.cell (p := ⟨b, o + j, none⟩) hbz).trans hcj
          have HL := hid (a4.below hbr)
          have HU := hid a5
          obtain ⟨m, hm, hmI, hm1, hm2⟩ := min_cast l.length 20
          have hmI : min (l.length : Int) 20 = m := hmI
          have HM := hid hm
          have hm0 : (0 : Int) ≤ m := by omega
          have hmc : (m : Int) ≤ xc := by omega
          have hmc2 : m ≤ xc := by omega
          clear hfg hcc hcj hl1 a4 a5 hbr hm
          go_upto_region 16 with (fail)
          go_cut [57, 58, 59] from 53 to 59 (fun s nn i wx => s = .slice xp m xc ∧ nn = .int .i64 m ∧ i = .int .i64 0 ∧ wx = wr)
          case first =>
            go_wp2_with fail
            all_goals
              have hme := HM.out
              go_meet
              first
                | (obtain rfl : m = 20 := by omega
                   exact ⟨rfl, rfl, rfl, rfl⟩)
                | (obtain rfl : m = l.length := by omega
                   exact ⟨rfl, rfl, rfl, rfl⟩)
          case rest =>
            obtain ⟨rfl, rfl, rfl, hwc⟩ := hcut
            rw [hwc]
            clear hwc
            obtain ⟨wq, hwq⟩ : ∃ wq, wq = wr := ⟨_, rfl⟩
            rw [← hwq] at HSU HD0 d1 hXr HBR hzy hcell HL ⊢
            clear hwq
            have hbl : (bytesOf l).length = m := by rw [bytesOf_len]; exact HM.out.symm
            have HBL := hid hbl
            clear hbl
            go_wp2_with fail
            go_loopw [12, 59] (fun ov i wr3 => ∃ r : Nat, r ≤ m ∧ i = .int .i64 r ∧ OWN wq.heap.size wq wr3 ov (accs n ((bytesOf l).take r))) (fun _ i _ => m - (intOf i).toNat)
            case atStart => exact ⟨0, Nat.zero_le _, rfl, OWN.start _⟩
            case round =>
              obtain ⟨r, hr, rfl, how⟩ := hrel
              have HOW := hid how
              by_cases hlt3 : r < m
              · have hlt3I : (r : Int) < m := by omega
                obtain ⟨b3, o3, rfl, hb3z, hc3⟩ := HL.out.at (by simp; omega)
                have hc3r := hc3 r (by simp; omega)
                simp only [List.getElem_map] at hc3r
                have hcell3 := (how.b.cell (p := ⟨b3, o3 + r, none⟩) hb3z).trans hc3r
                have hwf := HU.out _ (List.getElem_mem (show r < l.length by omega))
                have HSN3 := hid (accs_snoc n (bytesOf l) r (by have := HBL.out; omega))
                rw [bytesOf_get l r (by have := HBL.out; omega) (by omega)] at HSN3
                have HAL := hid (accs_len n ((bytesOf l).take r))
                have hal2 : ((bytesOf l).take r).length ≤ 20 := by have := HBL.out; simp; omega
                have hal3 : 2 * n * ((bytesOf l).take r).length ≤ 8 * 20 := Nat.mul_le_mul (by omega) hal2
                have hal : (accs n ((bytesOf l).take r)).length ≤ 160 := by have := HAL.out; omega
                generalize l[r] = x at *
                generalize accs n ((bytesOf l).take r) = pre at *
                have hx : 0 ≤ x ∧ x ≤ 255 := by simpa [Lit.wf, IntKind.min, IntKind.max, IntKind.signed, IntKind.bits] using hwf
                obtain ⟨y, rfl⟩ : ∃ y : Nat, x = y := ⟨x.toNat, by omega⟩
                rw [Int.toNat_natCast] at HSN3
                have hfr : (y : Int) % n = ((y % n : Nat) : Int) := by omega
                have hfl : y % n < n := Nat.mod_lt _ (by omega)
                generalize y % n = fr at *
                clear hc3r hc3 hwf how hal2 hal3 HAL
                go_wp2_with fail
                rw [hfr]
                go_loopw [12, 16] (fun ov2 i wr4 => ∃ k2 : Nat, fr ≤ k2 ∧ k2 ≤ n ∧ i = .int .i64 k2 ∧ OWN wq.heap.size wq wr4 ov2 (pre ++ locks k2 fr)) (fun _ i _ => n - (intOf i).toNat)
                case atStart => exact ⟨fr, Nat.le_refl _, by omega, rfl, by rw [locks_end (Nat.le_refl _), List.append_nil]; exact HOW.out⟩
                case round =>
                  obtain ⟨k2, hk0, hk1, rfl, how4⟩ := hrel
                  have HO4 := hid how4
                  have hl4 : (pre ++ locks k2 fr).length ≤ 164 := by unfold locks; simp; omega
                  clear how4
                  by_cases hlt4 : k2 < n
                  · have hlt4I : (k2 : Int) < n := by omega
                    generalize hgl : (pre ++ locks k2 fr) = lst at HO4 hl4
                    have HGL := hid hgl
                    clear hgl
                    go_wp2_with (first
                      | ((with_reducible show wpList _ _ _ (⟨some 77, _, _, _, _, _⟩ :: _) _ _); go_loud (refine wpList_app EAcc rfl _ _ rfl wq.heap.size u12 lst.length (acRow lst) rfl ((HO4.out.own).alloc _) _ 1 1 (Ac.cells4 (lockA k2)) rfl rfl (by simp) (row_newAt _ _ _ _ (by simp)) (ac4_one _) (by unfold maxLen; omega) (by omega) (by have := HO4.out.s; simp; omega) ?_); intro v5 w5 ho5 hg5 hs5; obtain ⟨vp5, vc5, rfl, _⟩ := own_row ho5; have HP5 := hid (HO4.out.push ho5 hg5); clear ho5 hg5 hs5))
                    go_roundw
                    case rel => exact ⟨k2 + 1, by omega, by omega, by go_num, by rw [locks_snoc hk0, ← List.append_assoc, HGL.out]; exact HP5.out⟩
                    case measure => simp [intOf]; omega
                  · have hlt4I : ¬ ((k2 : Int) < n) := by omega
                    obtain rfl : n = k2 := by omega
                    go_wp2_with fail
                    go_loopw [12, 17] (fun ov2 i wr4 => ∃ k2 : Nat, fr ≤ k2 ∧ k2 ≤ n ∧ i = .int .i64 k2 ∧ OWN wq.heap.size wq wr4 ov2 (pre ++ locks n fr ++ frees k2 fr)) (fun _ i _ => n - (intOf i).toNat)
                    case atStart => exact ⟨fr, Nat.le_refl _, by omega, rfl, by rw [frees_end (Nat.le_refl _), List.append_nil]; exact HO4.out⟩
                    case round =>
                      obtain ⟨k2, hk0, hk1, rfl, how5⟩ := hrel
                      have HO5 := hid how5
                      have hl5 : (pre ++ locks n fr ++ frees k2 fr).length ≤ 168 := by unfold locks frees; simp; omega
                      clear how5
                      by_cases hlt5 : k2 < n
                      · have hlt5I : (k2 : Int) < n := by omega
                        generalize hgl : (pre ++ locks n fr ++ frees k2 fr) = lst at HO5 hl5
                        have HGL := hid hgl
                        clear hgl
                        go_wp2_with (first
                          | ((with_reducible show wpList _ _ _ (⟨some 88, _, _, _, _, _⟩ :: _) _ _); go_loud (refine wpList_app EAcc rfl _ _ rfl wq.heap.size u12 lst.length (acRow lst) rfl ((HO5.out.own).alloc _) _ 1 1 (Ac.cells4 (freeA k2)) rfl rfl (by simp) (row_newAt _ _ _ _ (by simp)) (ac4_one _) (by unfold maxLen; omega) (by omega) (by have := HO5.out.s; simp; omega) ?_); intro v6 w6 ho6 hg6 hs6; obtain ⟨vp6, vc6, rfl, _⟩ := own_row ho6; have HP6 := hid (HO5.out.push ho6 hg6); clear ho6 hg6 hs6))
                        go_roundw
                        case rel => exact ⟨k2 + 1, by omega, by omega, by go_num, by rw [frees_snoc hk0, ← List.append_assoc, HGL.out]; exact HP6.out⟩
                        case measure => simp [intOf]; omega
                      · have hlt5I : ¬ ((k2 : Int) < n) := by omega
                        obtain rfl : n = k2 := by omega
                        go_wp2_with fail
                        go_roundw
                        case rel => exact ⟨r + 1, by omega, by go_num, by rw [HSN3.out]; unfold chunk; rw [← List.append_assoc]; exact HO5.out⟩
                        case measure => simp [intOf]; omega
              · have hlt3I : ¬ ((r : Int) < m) := by omega
                obtain rfl : m = r := by omega
                have hfull : (bytesOf l).take m = bytesOf l := by rw [← HBL.out, List.take_length]
                rw [hfull] at HOW
                obtain ⟨A, hA⟩ : ∃ A, A = accs n (bytesOf l) := ⟨_, rfl⟩
                rw [← hA] at HOW HWJ HSN HSH
                have hsh := HSH.out
                have htl := totW_le 160 ((workOf n xs).take j) (fun l2 h2 => workOf_short hn4 xs l2 (List.mem_of_mem_take h2))
                rw [List.length_take, workOf_len] at htl
                have htl2 : 160 * min j xs.length ≤ 160 * 20 := Nat.mul_le_mul (Nat.le_refl _) (by omega)
                obtain ⟨T, hT⟩ : ∃ T, T = totW ((workOf n xs).take j) := ⟨_, rfl⟩
                rw [← hT] at htl HSN ⊢
                have hTI : (T : Int) + A.length ≤ 9223372036854775807 := by omega
                obtain ⟨p5, c5, rfl, _⟩ := own_shape HOW.out.own
                have HD1 : Hid (wr.heap[w1.heap.size]? = some (.cells #[.slice cp n cc, wv, .slice q ps.length d] 28 (0, 0))) := (HOW.out.b.block _ hXr).trans HD0.out
                have e1 : wr.cell? ⟨w1.heap.size, 1, none⟩ = some wv := cell_of_row _ _ 1 _ _ _ HD1.out
                have HOWN : Hid (wr.ownsRow Wy.heap.size 32 1 wv j (wkCells ws ((workOf n xs).take j))) := own_below HSU.out.own HOW.out.b
                have hzw : wq.heap.size ≤ wr.heap.size := HOW.out.s
                clear hfull hA how hT d1 htl2
                go_wp2_with (first
                  | ((with_reducible show wpList _ _ _ (⟨some 98, _, _, _, _, _⟩ :: _) _ _); go_loud (refine wpList_app EAccL rfl _ _ rfl Wy.heap.size wv j (wkCells ws ((workOf n xs).take j)) rfl ((HOWN.out).alloc _) _ 1 1 [.slice p5 A.length c5] rfl rfl (by simp) (row_newAt _ _ _ _ (by simp)) (by intro u hu; simp at hu; subst hu; rfl) (by unfold maxLen; omega) (by omega) (by simp; omega) ?_); intro v6 w6 ho6 hg6 hs6; obtain ⟨vp6, vc6, rfl, _⟩ := own_row ho6; have HD6 : Hid (w6.heap[w1.heap.size]? = some (.cells #[.slice cp n cc, wv, .slice q ps.length d] 28 (0, 0))) := (hg6.block _ (by simp; omega) (fun e => by have := own_ge HOWN.out w1.heap.size e.symm; omega)).trans ((Below.heap_alloc _ _ _ (by omega)).trans HD1.out); have d6 : w6.cell? ⟨w1.heap.size, 1, none⟩ = some wv := cell_of_row _ _ 1 _ _ _ HD6.out; have f6 : w6.frozen? ⟨w1.heap.size, 1, none⟩ = false := frozen_of_row _ _ _ _ _ HD6.out; have HO6 := hid ho6; have HG6 := hid hg6; have HS6 := hid hs6; clear ho6 hg6 hs6))
                go_roundw
                case rel =>
                  refine ⟨j + 1, .slice vp6 (j + 1) vc6, ws ++ [(p5, c5)], by omega, by go_num, by rw [HSN.out]; go_num, SUP.push (by rw [workOf_len]; exact hlt) HSU.out (by omega) (w2 := wr.alloc (.cells #[.slice p5 A.length c5] 32)) (HOW.out.b.alloc HOW.out.s _) (by rw [HWJ.out]; exact (own_acat HOW.out.own).below ((Below.refl _ _).alloc (Nat.le_refl _) _)) (fun q2 hq2 => ?_) (by rw [HWJ.out]; exact HO6.out) HG6.out HS6.out (heap_setCell_same w6 w1.heap.size 1 _ _ _ HD6.out) (fun j2 hj2 => Below.heap_setCell _ _ _ _ hj2) (by simp) ⟨(grown_set w6 _ _ _).os, (grown_set w6 _ _ _).tape, (grown_set w6 _ _ _).output⟩⟩
                  have h1 : wq.heap.size ≤ q2.block := own_ge HOW.out.own q2.block (by subst hq2; rfl)
                  have h2 := own_lt HOW.out.own q2.block (by subst hq2; rfl)
                  exact ⟨h1, by simp; omega⟩
                case measure => simp [intOf]; omega
        · have hltI : ¬ ((j : Int) < xs.length) := by omega
          obtain rfl : j = xs.length := by omega
          have hfull : (workOf n xs).take xs.length = workOf n xs := by rw [← workOf_len n xs, List.take_length]
          have hsu := HSU.out
          by_cases h0 : xs.length = 0
          · have h0I : (xs.length : Int) = 0 := by omega
            go_wp2_with fail
            go_ret
            exact ⟨rfl, hbr⟩
          · have h0I : ¬ ((xs.length : Int) = 0) := by omega
            have hown := hsu.own
            rw [hfull] at hown ⊢
            obtain ⟨wp, wc, rfl, g1, g2, g3, _⟩ := own_row hown
            have hwi : WorkIs wr wp wc ws (workOf n xs) (fun _ => True) := ⟨g3, ⟨by rw [workOf_len]; exact g1, g2⟩, by rw [hsu.len, workOf_len], hsu.each, fun _ _ _ => trivial, fun _ _ _ _ _ _ => trivial⟩
            have hcr : Row wr cp (ceRow (List.replicate n lk0)) := row_blk HCR.out (fun _ q2 e => by
              have h := HCB.out q2 e
              exact hsu.turn.block q2.block h.2 (show ¬ q2.block = w1.heap.size by omega))
            have HNL := hid (newlists_any cp cc (List.replicate n lk0) wr (by rw [List.length_replicate]; exact HCC.out.1) HCC.out.2 hcr (fun z hz => by rw [List.eq_of_mem_replicate hz]; exact ⟨Nat.le_refl _, Nat.zero_le _, fun _ => rfl, Row.nil _ _⟩) (fun z hz => by rw [List.eq_of_mem_replicate hz]; exact Nat.zero_le _) wp wc ws (workOf n xs) (fun _ => True) hwi (fun l hl => by have := workOf_short hn4 xs l hl; omega))
            rw [List.length_replicate, workOf_len, lk0_x] at HNL
            unfold NLTell at HNL
            have HNE := hid (ends_new (n := n) hn4 (work := workOf n xs) (by rw [workOf_len]; omega) (by rw [workOf_len]; omega))
            have htl := totW_le 160 (workOf n xs) (workOf_short hn4 xs)
            rw [workOf_len] at htl
            have htl2 : 160 * xs.length ≤ 160 * 20 := Nat.mul_le_mul (Nat.le_refl _) h20
            have hrun := ends_run (n := n) (by omega) (listsOf xs) (by rw [listsOf_len]; omega) ps (by omega) (show totW (workOf n xs) ≤ 1099511627776 by omega)
            change ((nl0 (List.replicate n (lk (-1))) (workOf n xs)).run ps (totW (workOf n xs))).2.2 = 0 ∧ ((nl0 (List.replicate n (lk (-1))) (workOf n xs)).run ps (totW (workOf n xs))).1.finN = true ∧ ((nl0 (List.replicate n (lk (-1))) (workOf n xs)).run ps (totW (workOf n xs))).2.1.p + ((nl0 (List.replicate n (lk (-1))) (workOf n xs)).run ps (totW (workOf n xs))).2.1.t = totW (workOf n xs) ∧ ((nl0 (List.replicate n (lk (-1))) (workOf n xs)).run ps (totW (workOf n xs))).2.1.p + ((nl0 (List.replicate n (lk (-1))) (workOf n xs)).run ps (totW (workOf n xs))).2.1.s = ps.length at hrun
            have HRU := hid (fun (W : World) (base L : Nat) (fc fw : Nat → Prop) (H : LM W base L (nl0 (List.replicate n (lk (-1))) (workOf n xs)) fc fw) (hr : Row W q (ints64 ps)) (hk : ps ≠ [] → ∀ q2, q = some q2 → ¬ fc q2.block) => run_any (most := (totW (workOf n xs) : Int)) H ps q d hpd.1 hpd.2 hr hk (by omega) (by omega) (by omega))
            unfold RunTell at HRU
            generalize (nl0 (List.replicate n (lk (-1))) (workOf n xs)).run ps (totW (workOf n xs)) = RT at hrun HRU
            obtain ⟨S', ⟨rp, rs, rt⟩, rc⟩ := RT
            obtain ⟨r1, r2, r3, r4⟩ := hrun
            dsimp only at r1 r2 r3 r4 HRU
            subst r1
            generalize totW (workOf n xs) = TW at *
            have HFN := hid r2
            have hb1 : (rp + rt == (TW : Int)) = true := by simpa using r3
            have hb2 : (rp + rs == (ps.length : Int)) = true := by simpa using r4
            have d0 : wr.cell? ⟨w1.heap.size, 0, none⟩ = some (.slice cp n cc) := cell_of_row _ _ 0 _ _ _ HD0.out
            have HPB : Hid (∀ q2, q = some q2 → ps ≠ [] → q2.block < w.heap.size) := fun q2 e hne => by
              obtain ⟨b, o, e2, hcc⟩ := HPR.out (by simpa [ints64] using hne)
              rw [e] at e2; injection e2 with e2
              rw [e2]
              exact World.block_lt_of_cell? w _ (hcc 0 (by simpa [ints64] using List.length_pos_iff.2 hne))
            have hzb := hbr.size
            unfold mi at HRU
            clear hsu hown hwi hcr g3 HCR HCB r2 hfull
            go_wp2_with (first
              | (go_at_call 10; (with_reducible refine HNL.out.mono ?_); rintro e w3 hnt; have hnt2 := hnt.resolve_right (fun h => h.1 HNE.out); obtain ⟨_, L, fc, fw, rfl, hlm3, hff3, hb3⟩ := hnt2; have HL3 := hid hlm3; have HF3 := hid hff3; have HB3 := hid hb3; have HRN := hid (HRU.out w3 wr.heap.size L fc fw hlm3 ((HPR.out.below HBR.out).below hb3) (fun hne q2 e hq2 => by have h1 := HPB.out q2 e hne; have h2 := hff3 _ (.inl hq2); omega)); clear hnt hb3 hlm3 hff3)
              | (go_at_call 11; (with_reducible refine HRN.out.mono ?_); rintro e w4 ⟨rfl, fc4, hlm4, hff4, ht4, hb4⟩; have HFI := hid (fun w5 (hb : Below w4.heap.size w4 w5) => fin_any (hlm4.below hb)); unfold mi at HFI; simp only [HFN.out] at HFI; have HB4 := hid hb4; clear hlm4 hff4 ht4 hb4)
              | (go_at_call 12; (with_reducible refine (HFI.out _ ((Below.refl _ _).alloc (Nat.le_refl _) _)).mono ?_); rintro e w6 ⟨rfl, hb6⟩; have HB6 := hid hb6; clear hb6))
            go_ret
            have hz3 := HB3.out.size
            have hz4 := HB4.out.size
            exact ⟨ret_bool (by simp), ((HBR.out.trans (HB3.out.mono hzb)).trans (HB4.out.mono hzb)).trans ((((Below.refl _ _).alloc (Nat.le_refl _) _).trans (HB6.out.mono (by simp))).mono (by omega))⟩
end Go.Proofs.Ythmockfeffikjaa
