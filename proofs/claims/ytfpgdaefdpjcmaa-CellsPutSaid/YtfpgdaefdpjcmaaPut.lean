/-
  The walk of CellsPut.
-/
import Derived.Test.YtfpgdaefdpjcmaaLock
namespace Go.Proofs.Ytfpgdaefdpjcmaa
open Go.RowKit

def futC (n : Int) (t : Bool) : Ce := ⟨4, n, -1, 0, [], 0, t⟩
theorem fut_ok (n : Int) (t : Bool) (h : t = false → n = 0) : okP (futC n t) = true := by
  cases t
  · obtain rfl := h rfl
    rfl
  · simp [okP, futC]
theorem fut_put (n : Int) (t : Bool) (h : t = false → n = 0) (wk : Int) (hw : isW wk = true) (v : Int) :
    oneP (futC n t) wk ⟨7, 0, 0, v⟩ = if t then (futC n t, 0, 5) else (futC v true, 0, 0) := by
  unfold oneP
  rw [fut_ok n t h, hw]
  cases t <;> simp [stepP, futC]
theorem fut_get (n : Int) (t : Bool) (h : t = false → n = 0) (wk : Int) (hw : isW wk = true) :
    oneP (futC n t) wk ⟨8, 0, 0, 0⟩ = if t then (futC n t, n, 0) else (futC n t, 0, 231) := by
  unfold oneP
  rw [fut_ok n t h, hw]
  cases t <;> simp [stepP, futC]

theorem wk64 (wk : Int) : isW (wrap64 ((IntKind.u64.wrap wk).tmod 64)) = true := by
  have h0 : 0 ≤ IntKind.u64.wrap wk := by simp [IntKind.wrap, IntKind.bits, IntKind.signed]; omega
  rw [Int.tmod_eq_emod_of_nonneg h0]
  generalize IntKind.u64.wrap wk = z at h0 ⊢
  unfold wrap64 isW
  simp only [Bool.and_eq_true, decide_eq_true_eq]
  omega

set_option maxRecDepth 20000 in
set_option maxHeartbeats 2000000 in
theorem put_core (w : World) (ov : Option Addr) (cv : Nat) (vs : List Int) (hcv : vs.length ≤ cv) (hcmv : cv ≤ maxLen) (hrowv : Row w ov (i64s vs)) (o : Option Addr) (c m : Nat) (ds : List DoR) (hc : ds.length ≤ c) (hcm : c ≤ maxLen) (hrow : Row w o (doRow ds))
    (hm : m = ds.length ∧ ds.length ≤ 200 ∨ m = 200 ∧ 200 < ds.length) :
    Calls Try.prog 7 #[.slice ov vs.length cv, .slice o ds.length c] w fun e w' => e = .returned (.bool true) ∧ Below w.heap.size w w' := by
  unfold maxLen at hcm hcmv
  obtain ⟨L, hL⟩ : ∃ L, L = vs.length := ⟨_, rfl⟩
  have hrl : ∀ q, q < L → q < vs.length := fun q h => by omega
  rw [← hL] at hcv ⊢
  clear hL
  have HLV := hid (live_any)
  have HM : Hid (∀ w1, Calls Try.prog 16 #[i64 4, i64 0] w1 fun e w' => ∃ p c, e = .returned (.tuple #[.agg #[i64 4, i64 0, i64 (-1), i64 0, .slice p 0 c, i64 0, .bool false], i64 0]) ∧ SlAt w' p c [] ∧ Below w1.heap.size w1 w') := fun w1 => make_at 4 0 ⟨4, 0, -1, 0, [], 0, false⟩ 0 (by decide) w1
  have HO := hid (fun (n : Int) (t : Bool) (wk : Int) (a : Ac) (X : Ce) (V E : Int) (hr : oneP (futC n t) wk a = (X, V, E)) (p : Option Addr) (c : Nat) w1 (hs : SlAt w1 p c []) =>
    show Calls Try.prog 14 #[.agg #[i64 4, i64 n, i64 (-1), i64 0, .slice p 0 c, i64 0, .bool t], i64 wk, .agg #[i64 a.kind, i64 a.cell, i64 a.old, i64 a.new]] w1 (fun e w' => ∃ p c, e = .returned (.tuple #[X.val p c, i64 V, i64 E]) ∧ SlAt w' p c X.came ∧ (∀ q, p = some q → w1.heap.size ≤ q.block ∧ q.block < w'.heap.size) ∧ Below w1.heap.size w1 w') from
      one_at (futC n t) X wk a V E hr (by simp [futC]) p c w1 hs)
  rcases hm with ⟨rfl, hl⟩ | ⟨rfl, hl⟩
  · go_enter Try.func7, Try.ntmps7
    go_wp2_with (first
      | (go_at_call 11; refine (HLV.out _).mono ?_; rintro e w1 ⟨rfl, hb1⟩)
      | (go_at_call 16; refine (HM.out _).mono ?_; rintro e w2 ⟨p2, c2, rfl, hs2, hb2⟩; have hbw2 := hb1.trans (hb2.mono hb1.size)))
    obtain ⟨b, hb⟩ : ∃ b, b = w2.heap.size := ⟨_, rfl⟩
    have hwb : w.heap.size ≤ b := by rw [hb]; exact hbw2.size
    rw [← hb]
    have HST : Hid (CeBlk (w2.alloc (.cells #[i64 4, i64 0, i64 (-1), i64 0, .slice p2 0 c2, i64 0, .bool false] 24)) b (futC 0 false) p2 c2 ∧ SlAt (w2.alloc (.cells #[i64 4, i64 0, i64 (-1), i64 0, .slice p2 0 c2, i64 0, .bool false] 24)) p2 c2 [] ∧ Below w.heap.size w (w2.alloc (.cells #[i64 4, i64 0, i64 (-1), i64 0, .slice p2 0 c2, i64 0, .bool false] 24))) := by
      rw [hb]
      exact ⟨ceblk_new w2 (futC 0 false) p2 c2, hs2.alloc _, hbw2.alloc hbw2.size _⟩
    clear hb hs2 hb1 hb2 hbw2
    go_loopw [7, 8, 29] (fun t f i wr => ∃ (k : Nat) (n : Int) (T : Bool) (p' : Option Addr) (c' : Nat), k ≤ ds.length ∧ t = .bool T ∧ f = i64 n ∧ i = .int .i64 k ∧ (T = false → n = 0) ∧ CeBlk wr b (futC n T) p' c' ∧ SlAt wr p' c' [] ∧ Below w.heap.size w wr) (fun _ _ i _ => ds.length - (intOf i).toNat)
    case atStart => exact ⟨0, 0, false, p2, c2, Nat.zero_le _, rfl, rfl, rfl, fun _ => rfl, HST.out.1, HST.out.2.1, HST.out.2.2⟩
    case round =>
      clear HST
      obtain ⟨k, n, T, p', c', hk, rfl, rfl, rfl, hT, hblk, hs, hbw⟩ := hrel
      have HB := hid hblk
      obtain ⟨⟨k0, k1, k2, k3, k4, k5, k6⟩, kf, kl⟩ := hblk.facts
      dsimp only [futC, List.length_nil] at k0 k1 k2 k3 k4 k5 k6
      clear hblk
      have hsz := hbw.size
      by_cases hlt : k < ds.length
      · obtain ⟨b1, o1, rfl, hb1, hz1⟩ := hrow.at (by have := doRow_len ds; omega)
        clear hz1
        obtain ⟨c0, c1, c2', c3', c4⟩ := do_cells (hrow.below hbw) k (by omega)
        obtain ⟨d, hd⟩ : ∃ d, d = ds[k]'(by omega) := ⟨_, rfl⟩
        rw [← hd] at c0 c1 c2' c3' c4
        clear hd
        obtain ⟨wk, ak, ac, ao, an⟩ := d
        dsimp only at c0 c1 c2' c3' c4
        have HP := hid (fut_put n T hT)
        have HG := hid (fut_get n T hT)
        have HT := hid hT
        clear hT
        have hba := hbw.alloc hsz (.cells #[i64 wk, i64 ak, i64 ac, i64 ao, i64 an] 44)
        have hba2 := fun O => hba.alloc (by simp; omega) O
        obtain ⟨j, hj⟩ : ∃ j : Int, (k : Int).tmod 3 = j := ⟨_, rfl⟩
        by_cases hput : 0 < L ∧ j = 1
        · obtain ⟨hv0, rfl⟩ := hput
          obtain ⟨q, hq⟩ : ∃ q : Nat, (k : Int).tmod (L : Int) = (q : Int) := ⟨k % L, by rw [Int.tmod_eq_emod_of_nonneg (by omega)]; omega⟩
          have hql : q < L := by rw [Int.tmod_eq_emod_of_nonneg (by omega)] at hq; have := Int.emod_lt_of_pos (k : Int) (show (0 : Int) < L by omega); omega
          have hqv := hid (hrl q hql)
          obtain ⟨bv, ov1, rfl, hbv1, hzv1⟩ := hrowv.at (by have := hrl q hql; simp; omega)
          clear hzv1
          have g1 := (hrowv.below hbw).cell q (by simpa using hqv.out)
          simp only [i64s, List.getElem_map] at g1
          have hbl := World.block_lt_of_cell? wr _ g1
          dsimp only at hbl
          obtain ⟨v, hv⟩ : ∃ v, v = vs[q]'hqv.out := ⟨_, rfl⟩
          rw [← hv] at g1
          clear hv
          cases T with
          | false =>
            have HO1 := hid (HO.out n false _ ⟨7, 0, 0, v⟩ (futC v true) 0 0 ((HP.out _ (wk64 wk) v).trans (by simp)))
            dsimp only [futC, Ce.val, List.length_nil] at HO1
            clear HP HG
            go_wp2_with (go_at_call 14; refine (HO1.out _ _ _ ((hs.alloc _).alloc _)).mono ?_; rintro e w3 ⟨p3, c3, rfl, hs3, hl3, hb3⟩; have HB3 := hid (((HB.out.alloc _).alloc _).below hb3); have hz3 := hb3.size; simp only [World.size_alloc] at hz3; have hlw : wr.heap.size + 1 < w3.heap.size := (by omega); have hD : w3.heap[wr.heap.size + 1]? = some (.cells #[i64 7, i64 0, i64 0, i64 v] 26 (0, 0)) := (hb3.block _ (by simp)).trans (by simpa using heap_alloc_new (wr.alloc (.cells #[i64 wk, i64 ak, i64 ac, i64 ao, i64 an] 44)) _); have d0 := cell_of_row w3 (wr.heap.size + 1) 0 _ _ _ hD; have d3 := cell_of_row w3 (wr.heap.size + 1) 3 _ _ _ hD; simp only [List.getElem?_toArray, List.getElem?_cons_zero, List.getElem?_cons_succ] at d0 d3; clear hD; obtain ⟨⟨y0, y1, y2, y3, y4, y5, y6⟩, yf, yl⟩ := HB3.out.facts; dsimp only [futC, List.length_nil] at y0 y1 y2 y3 y4 y5 y6)
            go_region
            go_wp2
            go_roundw
            case rel =>
              obtain ⟨r1, r2, r3⟩ := cell_new (W := (wr.alloc (.cells #[i64 wk, i64 ak, i64 ac, i64 ao, i64 an] 44)).alloc (.cells #[i64 7, i64 0, i64 0, i64 v] 26)) (x' := (futC v true)) hwb HB3.out hs3 hl3 (by simp; omega) ((hba2 _).trans (hb3.mono (by simp; omega))) (.cells #[i64 4, i64 (v), i64 (-1), i64 0, .slice p3 0 c3, i64 0, .bool true] 24)
              exact ⟨k + 1, v, true, p3, c3, by omega, rfl, rfl, by go_num, by simp, r1.drew, r2.drew, r3.drew⟩
            case measure => simp [intOf]; omega
          | true =>
            have HO1 := hid (HO.out n true _ ⟨7, 0, 0, v⟩ (futC n true) 0 5 ((HP.out _ (wk64 wk) v).trans (by simp)))
            dsimp only [futC, Ce.val, List.length_nil] at HO1
            clear HP HG
            go_wp2_with (go_at_call 14; refine (HO1.out _ _ _ ((hs.alloc _).alloc _)).mono ?_; rintro e w3 ⟨p3, c3, rfl, hs3, hl3, hb3⟩; have HB3 := hid (((HB.out.alloc _).alloc _).below hb3); have hz3 := hb3.size; simp only [World.size_alloc] at hz3; have hlw : wr.heap.size + 1 < w3.heap.size := (by omega); have hD : w3.heap[wr.heap.size + 1]? = some (.cells #[i64 7, i64 0, i64 0, i64 v] 26 (0, 0)) := (hb3.block _ (by simp)).trans (by simpa using heap_alloc_new (wr.alloc (.cells #[i64 wk, i64 ak, i64 ac, i64 ao, i64 an] 44)) _); have d0 := cell_of_row w3 (wr.heap.size + 1) 0 _ _ _ hD; have d3 := cell_of_row w3 (wr.heap.size + 1) 3 _ _ _ hD; simp only [List.getElem?_toArray, List.getElem?_cons_zero, List.getElem?_cons_succ] at d0 d3; clear hD; obtain ⟨⟨y0, y1, y2, y3, y4, y5, y6⟩, yf, yl⟩ := HB3.out.facts; dsimp only [futC, List.length_nil] at y0 y1 y2 y3 y4 y5 y6)
            go_roundw
            case rel =>
              obtain ⟨r1, r2, r3⟩ := cell_new (W := (wr.alloc (.cells #[i64 wk, i64 ak, i64 ac, i64 ao, i64 an] 44)).alloc (.cells #[i64 7, i64 0, i64 0, i64 v] 26)) (x' := (futC n true)) hwb HB3.out hs3 hl3 (by simp; omega) ((hba2 _).trans (hb3.mono (by simp; omega))) (.cells #[i64 4, i64 (n), i64 (-1), i64 0, .slice p3 0 c3, i64 0, .bool true] 24)
              exact ⟨k + 1, n, true, p3, c3, by omega, rfl, rfl, by go_num, by simp, r1, r2, r3⟩
            case measure => simp [intOf]; omega
        · have hnp : L = 0 ∨ (0 < L ∧ j ≠ 1) := by
            by_cases h0 : L = 0
            · exact .inl h0
            · exact .inr ⟨by omega, fun h => hput ⟨by omega, h⟩⟩
          clear hput hrl
          rcases hnp with rfl | ⟨hv0, hj1⟩
          · clear hcv
            cases T with
            | false =>
              have HO1 := hid (HO.out n false _ ⟨8, 0, 0, 0⟩ (futC n false) 0 231 ((HG.out _ (wk64 wk)).trans (by simp)))
              dsimp only [futC, Ce.val, List.length_nil] at HO1
              clear HP HG
              go_wp2_with (go_at_call 14; refine (HO1.out _ _ _ ((hs.alloc _).alloc _)).mono ?_; rintro e w3 ⟨p3, c3, rfl, hs3, hl3, hb3⟩; have HB3 := hid (((HB.out.alloc _).alloc _).below hb3); have hz3 := hb3.size; simp only [World.size_alloc] at hz3; have hlw : wr.heap.size + 1 < w3.heap.size := (by omega); have hD : w3.heap[wr.heap.size + 1]? = some (.cells #[i64 8, i64 0, i64 0, i64 0] 26 (0, 0)) := (hb3.block _ (by simp)).trans (by simpa using heap_alloc_new (wr.alloc (.cells #[i64 wk, i64 ak, i64 ac, i64 ao, i64 an] 44)) _); have d0 := cell_of_row w3 (wr.heap.size + 1) 0 _ _ _ hD; have d3 := cell_of_row w3 (wr.heap.size + 1) 3 _ _ _ hD; simp only [List.getElem?_toArray, List.getElem?_cons_zero, List.getElem?_cons_succ] at d0 d3; clear hD; obtain ⟨⟨y0, y1, y2, y3, y4, y5, y6⟩, yf, yl⟩ := HB3.out.facts; dsimp only [futC, List.length_nil] at y0 y1 y2 y3 y4 y5 y6)
              go_roundw
              case rel =>
                obtain ⟨r1, r2, r3⟩ := cell_new (W := (wr.alloc (.cells #[i64 wk, i64 ak, i64 ac, i64 ao, i64 an] 44)).alloc (.cells #[i64 8, i64 0, i64 0, i64 0] 26)) (x' := (futC n false)) hwb HB3.out hs3 hl3 (by simp; omega) ((hba2 _).trans (hb3.mono (by simp; omega))) (.cells #[i64 4, i64 (n), i64 (-1), i64 0, .slice p3 0 c3, i64 0, .bool false] 24)
                exact ⟨k + 1, n, false, p3, c3, by omega, rfl, rfl, by go_num, fun _ => (by have h9 := HT.out; simpa using h9), r1, r2, r3⟩
              case measure => simp [intOf]; omega
            | true =>
              have HO1 := hid (HO.out n true _ ⟨8, 0, 0, 0⟩ (futC n true) n 0 ((HG.out _ (wk64 wk)).trans (by simp)))
              dsimp only [futC, Ce.val, List.length_nil] at HO1
              clear HP HG
              have hnn : (n != n) = false := by simp
              go_wp2_with (go_at_call 14; refine (HO1.out _ _ _ ((hs.alloc _).alloc _)).mono ?_; rintro e w3 ⟨p3, c3, rfl, hs3, hl3, hb3⟩; have HB3 := hid (((HB.out.alloc _).alloc _).below hb3); have hz3 := hb3.size; simp only [World.size_alloc] at hz3; have hlw : wr.heap.size + 1 < w3.heap.size := (by omega); have hD : w3.heap[wr.heap.size + 1]? = some (.cells #[i64 8, i64 0, i64 0, i64 0] 26 (0, 0)) := (hb3.block _ (by simp)).trans (by simpa using heap_alloc_new (wr.alloc (.cells #[i64 wk, i64 ak, i64 ac, i64 ao, i64 an] 44)) _); have d0 := cell_of_row w3 (wr.heap.size + 1) 0 _ _ _ hD; have d3 := cell_of_row w3 (wr.heap.size + 1) 3 _ _ _ hD; simp only [List.getElem?_toArray, List.getElem?_cons_zero, List.getElem?_cons_succ] at d0 d3; clear hD; obtain ⟨⟨y0, y1, y2, y3, y4, y5, y6⟩, yf, yl⟩ := HB3.out.facts; dsimp only [futC, List.length_nil] at y0 y1 y2 y3 y4 y5 y6)
              go_roundw
              case rel =>
                obtain ⟨r1, r2, r3⟩ := cell_new (W := (wr.alloc (.cells #[i64 wk, i64 ak, i64 ac, i64 ao, i64 an] 44)).alloc (.cells #[i64 8, i64 0, i64 0, i64 0] 26)) (x' := (futC n true)) hwb HB3.out hs3 hl3 (by simp; omega) ((hba2 _).trans (hb3.mono (by simp; omega))) (.cells #[i64 4, i64 (n), i64 (-1), i64 0, .slice p3 0 c3, i64 0, .bool true] 24)
                exact ⟨k + 1, n, true, p3, c3, by omega, rfl, rfl, by go_num, by simp, r1, r2, r3⟩
              case measure => simp [intOf]; omega
          · have hj1 : (j == 1) = false := by simpa using hj1
            cases T with
            | false =>
              have HO1 := hid (HO.out n false _ ⟨8, 0, 0, 0⟩ (futC n false) 0 231 ((HG.out _ (wk64 wk)).trans (by simp)))
              dsimp only [futC, Ce.val, List.length_nil] at HO1
              clear HP HG
              go_wp2_with (go_at_call 14; refine (HO1.out _ _ _ ((hs.alloc _).alloc _)).mono ?_; rintro e w3 ⟨p3, c3, rfl, hs3, hl3, hb3⟩; have HB3 := hid (((HB.out.alloc _).alloc _).below hb3); have hz3 := hb3.size; simp only [World.size_alloc] at hz3; have hlw : wr.heap.size + 1 < w3.heap.size := (by omega); have hD : w3.heap[wr.heap.size + 1]? = some (.cells #[i64 8, i64 0, i64 0, i64 0] 26 (0, 0)) := (hb3.block _ (by simp)).trans (by simpa using heap_alloc_new (wr.alloc (.cells #[i64 wk, i64 ak, i64 ac, i64 ao, i64 an] 44)) _); have d0 := cell_of_row w3 (wr.heap.size + 1) 0 _ _ _ hD; have d3 := cell_of_row w3 (wr.heap.size + 1) 3 _ _ _ hD; simp only [List.getElem?_toArray, List.getElem?_cons_zero, List.getElem?_cons_succ] at d0 d3; clear hD; obtain ⟨⟨y0, y1, y2, y3, y4, y5, y6⟩, yf, yl⟩ := HB3.out.facts; dsimp only [futC, List.length_nil] at y0 y1 y2 y3 y4 y5 y6)
              go_roundw
              case rel =>
                obtain ⟨r1, r2, r3⟩ := cell_new (W := (wr.alloc (.cells #[i64 wk, i64 ak, i64 ac, i64 ao, i64 an] 44)).alloc (.cells #[i64 8, i64 0, i64 0, i64 0] 26)) (x' := (futC n false)) hwb HB3.out hs3 hl3 (by simp; omega) ((hba2 _).trans (hb3.mono (by simp; omega))) (.cells #[i64 4, i64 (n), i64 (-1), i64 0, .slice p3 0 c3, i64 0, .bool false] 24)
                exact ⟨k + 1, n, false, p3, c3, by omega, rfl, rfl, by go_num, fun _ => (by have h9 := HT.out; simpa using h9), r1, r2, r3⟩
              case measure => simp [intOf]; omega
            | true =>
              have HO1 := hid (HO.out n true _ ⟨8, 0, 0, 0⟩ (futC n true) n 0 ((HG.out _ (wk64 wk)).trans (by simp)))
              dsimp only [futC, Ce.val, List.length_nil] at HO1
              clear HP HG
              have hnn : (n != n) = false := by simp
              go_wp2_with (go_at_call 14; refine (HO1.out _ _ _ ((hs.alloc _).alloc _)).mono ?_; rintro e w3 ⟨p3, c3, rfl, hs3, hl3, hb3⟩; have HB3 := hid (((HB.out.alloc _).alloc _).below hb3); have hz3 := hb3.size; simp only [World.size_alloc] at hz3; have hlw : wr.heap.size + 1 < w3.heap.size := (by omega); have hD : w3.heap[wr.heap.size + 1]? = some (.cells #[i64 8, i64 0, i64 0, i64 0] 26 (0, 0)) := (hb3.block _ (by simp)).trans (by simpa using heap_alloc_new (wr.alloc (.cells #[i64 wk, i64 ak, i64 ac, i64 ao, i64 an] 44)) _); have d0 := cell_of_row w3 (wr.heap.size + 1) 0 _ _ _ hD; have d3 := cell_of_row w3 (wr.heap.size + 1) 3 _ _ _ hD; simp only [List.getElem?_toArray, List.getElem?_cons_zero, List.getElem?_cons_succ] at d0 d3; clear hD; obtain ⟨⟨y0, y1, y2, y3, y4, y5, y6⟩, yf, yl⟩ := HB3.out.facts; dsimp only [futC, List.length_nil] at y0 y1 y2 y3 y4 y5 y6)
              go_roundw
              case rel =>
                obtain ⟨r1, r2, r3⟩ := cell_new (W := (wr.alloc (.cells #[i64 wk, i64 ak, i64 ac, i64 ao, i64 an] 44)).alloc (.cells #[i64 8, i64 0, i64 0, i64 0] 26)) (x' := (futC n true)) hwb HB3.out hs3 hl3 (by simp; omega) ((hba2 _).trans (hb3.mono (by simp; omega))) (.cells #[i64 4, i64 (n), i64 (-1), i64 0, .slice p3 0 c3, i64 0, .bool true] 24)
                exact ⟨k + 1, n, true, p3, c3, by omega, rfl, rfl, by go_num, by simp, r1, r2, r3⟩
              case measure => simp [intOf]; omega
      · have hkx : k = ds.length := by omega
        subst hkx
        go_wp2
        go_ret
        exact ⟨ret_bool (by simp), hbw⟩
  · go_enter Try.func7, Try.ntmps7
    go_wp2_with (first
      | (go_at_call 11; refine (HLV.out _).mono ?_; rintro e w1 ⟨rfl, hb1⟩)
      | (go_at_call 16; refine (HM.out _).mono ?_; rintro e w2 ⟨p2, c2, rfl, hs2, hb2⟩; have hbw2 := hb1.trans (hb2.mono hb1.size)))
    obtain ⟨b, hb⟩ : ∃ b, b = w2.heap.size := ⟨_, rfl⟩
    have hwb : w.heap.size ≤ b := by rw [hb]; exact hbw2.size
    rw [← hb]
    have HST : Hid (CeBlk (w2.alloc (.cells #[i64 4, i64 0, i64 (-1), i64 0, .slice p2 0 c2, i64 0, .bool false] 24)) b (futC 0 false) p2 c2 ∧ SlAt (w2.alloc (.cells #[i64 4, i64 0, i64 (-1), i64 0, .slice p2 0 c2, i64 0, .bool false] 24)) p2 c2 [] ∧ Below w.heap.size w (w2.alloc (.cells #[i64 4, i64 0, i64 (-1), i64 0, .slice p2 0 c2, i64 0, .bool false] 24))) := by
      rw [hb]
      exact ⟨ceblk_new w2 (futC 0 false) p2 c2, hs2.alloc _, hbw2.alloc hbw2.size _⟩
    clear hb hs2 hb1 hb2 hbw2
    go_loopw [7, 8, 29] (fun t f i wr => ∃ (k : Nat) (n : Int) (T : Bool) (p' : Option Addr) (c' : Nat), k ≤ 200 ∧ t = .bool T ∧ f = i64 n ∧ i = .int .i64 k ∧ (T = false → n = 0) ∧ CeBlk wr b (futC n T) p' c' ∧ SlAt wr p' c' [] ∧ Below w.heap.size w wr) (fun _ _ i _ => 200 - (intOf i).toNat)
    case atStart => exact ⟨0, 0, false, p2, c2, Nat.zero_le _, rfl, rfl, rfl, fun _ => rfl, HST.out.1, HST.out.2.1, HST.out.2.2⟩
    case round =>
      clear HST
      obtain ⟨k, n, T, p', c', hk, rfl, rfl, rfl, hT, hblk, hs, hbw⟩ := hrel
      have HB := hid hblk
      obtain ⟨⟨k0, k1, k2, k3, k4, k5, k6⟩, kf, kl⟩ := hblk.facts
      dsimp only [futC, List.length_nil] at k0 k1 k2 k3 k4 k5 k6
      clear hblk
      have hsz := hbw.size
      by_cases hlt : k < 200
      · obtain ⟨b1, o1, rfl, hb1, hz1⟩ := hrow.at (by have := doRow_len ds; omega)
        clear hz1
        obtain ⟨c0, c1, c2', c3', c4⟩ := do_cells (hrow.below hbw) k (by omega)
        obtain ⟨d, hd⟩ : ∃ d, d = ds[k]'(by omega) := ⟨_, rfl⟩
        rw [← hd] at c0 c1 c2' c3' c4
        clear hd
        obtain ⟨wk, ak, ac, ao, an⟩ := d
        dsimp only at c0 c1 c2' c3' c4
        have HP := hid (fut_put n T hT)
        have HG := hid (fut_get n T hT)
        have HT := hid hT
        clear hT
        have hba := hbw.alloc hsz (.cells #[i64 wk, i64 ak, i64 ac, i64 ao, i64 an] 44)
        have hba2 := fun O => hba.alloc (by simp; omega) O
        obtain ⟨j, hj⟩ : ∃ j : Int, (k : Int).tmod 3 = j := ⟨_, rfl⟩
        by_cases hput : 0 < L ∧ j = 1
        · obtain ⟨hv0, rfl⟩ := hput
          obtain ⟨q, hq⟩ : ∃ q : Nat, (k : Int).tmod (L : Int) = (q : Int) := ⟨k % L, by rw [Int.tmod_eq_emod_of_nonneg (by omega)]; omega⟩
          have hql : q < L := by rw [Int.tmod_eq_emod_of_nonneg (by omega)] at hq; have := Int.emod_lt_of_pos (k : Int) (show (0 : Int) < L by omega); omega
          have hqv := hid (hrl q hql)
          obtain ⟨bv, ov1, rfl, hbv1, hzv1⟩ := hrowv.at (by have := hrl q hql; simp; omega)
          clear hzv1
          have g1 := (hrowv.below hbw).cell q (by simpa using hqv.out)
          simp only [i64s, List.getElem_map] at g1
          have hbl := World.block_lt_of_cell? wr _ g1
          dsimp only at hbl
          obtain ⟨v, hv⟩ : ∃ v, v = vs[q]'hqv.out := ⟨_, rfl⟩
          rw [← hv] at g1
          clear hv
          cases T with
          | false =>
            have HO1 := hid (HO.out n false _ ⟨7, 0, 0, v⟩ (futC v true) 0 0 ((HP.out _ (wk64 wk) v).trans (by simp)))
            dsimp only [futC, Ce.val, List.length_nil] at HO1
            clear HP HG
            go_wp2_with (go_at_call 14; refine (HO1.out _ _ _ ((hs.alloc _).alloc _)).mono ?_; rintro e w3 ⟨p3, c3, rfl, hs3, hl3, hb3⟩; have HB3 := hid (((HB.out.alloc _).alloc _).below hb3); have hz3 := hb3.size; simp only [World.size_alloc] at hz3; have hlw : wr.heap.size + 1 < w3.heap.size := (by omega); have hD : w3.heap[wr.heap.size + 1]? = some (.cells #[i64 7, i64 0, i64 0, i64 v] 26 (0, 0)) := (hb3.block _ (by simp)).trans (by simpa using heap_alloc_new (wr.alloc (.cells #[i64 wk, i64 ak, i64 ac, i64 ao, i64 an] 44)) _); have d0 := cell_of_row w3 (wr.heap.size + 1) 0 _ _ _ hD; have d3 := cell_of_row w3 (wr.heap.size + 1) 3 _ _ _ hD; simp only [List.getElem?_toArray, List.getElem?_cons_zero, List.getElem?_cons_succ] at d0 d3; clear hD; obtain ⟨⟨y0, y1, y2, y3, y4, y5, y6⟩, yf, yl⟩ := HB3.out.facts; dsimp only [futC, List.length_nil] at y0 y1 y2 y3 y4 y5 y6)
            go_region
            go_wp2
            go_roundw
            case rel =>
              obtain ⟨r1, r2, r3⟩ := cell_new (W := (wr.alloc (.cells #[i64 wk, i64 ak, i64 ac, i64 ao, i64 an] 44)).alloc (.cells #[i64 7, i64 0, i64 0, i64 v] 26)) (x' := (futC v true)) hwb HB3.out hs3 hl3 (by simp; omega) ((hba2 _).trans (hb3.mono (by simp; omega))) (.cells #[i64 4, i64 (v), i64 (-1), i64 0, .slice p3 0 c3, i64 0, .bool true] 24)
              exact ⟨k + 1, v, true, p3, c3, by omega, rfl, rfl, by go_num, by simp, r1.drew, r2.drew, r3.drew⟩
            case measure => simp [intOf]; omega
          | true =>
            have HO1 := hid (HO.out n true _ ⟨7, 0, 0, v⟩ (futC n true) 0 5 ((HP.out _ (wk64 wk) v).trans (by simp)))
            dsimp only [futC, Ce.val, List.length_nil] at HO1
            clear HP HG
            go_wp2_with (go_at_call 14; refine (HO1.out _ _ _ ((hs.alloc _).alloc _)).mono ?_; rintro e w3 ⟨p3, c3, rfl, hs3, hl3, hb3⟩; have HB3 := hid (((HB.out.alloc _).alloc _).below hb3); have hz3 := hb3.size; simp only [World.size_alloc] at hz3; have hlw : wr.heap.size + 1 < w3.heap.size := (by omega); have hD : w3.heap[wr.heap.size + 1]? = some (.cells #[i64 7, i64 0, i64 0, i64 v] 26 (0, 0)) := (hb3.block _ (by simp)).trans (by simpa using heap_alloc_new (wr.alloc (.cells #[i64 wk, i64 ak, i64 ac, i64 ao, i64 an] 44)) _); have d0 := cell_of_row w3 (wr.heap.size + 1) 0 _ _ _ hD; have d3 := cell_of_row w3 (wr.heap.size + 1) 3 _ _ _ hD; simp only [List.getElem?_toArray, List.getElem?_cons_zero, List.getElem?_cons_succ] at d0 d3; clear hD; obtain ⟨⟨y0, y1, y2, y3, y4, y5, y6⟩, yf, yl⟩ := HB3.out.facts; dsimp only [futC, List.length_nil] at y0 y1 y2 y3 y4 y5 y6)
            go_roundw
            case rel =>
              obtain ⟨r1, r2, r3⟩ := cell_new (W := (wr.alloc (.cells #[i64 wk, i64 ak, i64 ac, i64 ao, i64 an] 44)).alloc (.cells #[i64 7, i64 0, i64 0, i64 v] 26)) (x' := (futC n true)) hwb HB3.out hs3 hl3 (by simp; omega) ((hba2 _).trans (hb3.mono (by simp; omega))) (.cells #[i64 4, i64 (n), i64 (-1), i64 0, .slice p3 0 c3, i64 0, .bool true] 24)
              exact ⟨k + 1, n, true, p3, c3, by omega, rfl, rfl, by go_num, by simp, r1, r2, r3⟩
            case measure => simp [intOf]; omega
        · have hnp : L = 0 ∨ (0 < L ∧ j ≠ 1) := by
            by_cases h0 : L = 0
            · exact .inl h0
            · exact .inr ⟨by omega, fun h => hput ⟨by omega, h⟩⟩
          clear hput hrl
          rcases hnp with rfl | ⟨hv0, hj1⟩
          · clear hcv
            cases T with
            | false =>
              have HO1 := hid (HO.out n false _ ⟨8, 0, 0, 0⟩ (futC n false) 0 231 ((HG.out _ (wk64 wk)).trans (by simp)))
              dsimp only [futC, Ce.val, List.length_nil] at HO1
              clear HP HG
              go_wp2_with (go_at_call 14; refine (HO1.out _ _ _ ((hs.alloc _).alloc _)).mono ?_; rintro e w3 ⟨p3, c3, rfl, hs3, hl3, hb3⟩; have HB3 := hid (((HB.out.alloc _).alloc _).below hb3); have hz3 := hb3.size; simp only [World.size_alloc] at hz3; have hlw : wr.heap.size + 1 < w3.heap.size := (by omega); have hD : w3.heap[wr.heap.size + 1]? = some (.cells #[i64 8, i64 0, i64 0, i64 0] 26 (0, 0)) := (hb3.block _ (by simp)).trans (by simpa using heap_alloc_new (wr.alloc (.cells #[i64 wk, i64 ak, i64 ac, i64 ao, i64 an] 44)) _); have d0 := cell_of_row w3 (wr.heap.size + 1) 0 _ _ _ hD; have d3 := cell_of_row w3 (wr.heap.size + 1) 3 _ _ _ hD; simp only [List.getElem?_toArray, List.getElem?_cons_zero, List.getElem?_cons_succ] at d0 d3; clear hD; obtain ⟨⟨y0, y1, y2, y3, y4, y5, y6⟩, yf, yl⟩ := HB3.out.facts; dsimp only [futC, List.length_nil] at y0 y1 y2 y3 y4 y5 y6)
              go_roundw
              case rel =>
                obtain ⟨r1, r2, r3⟩ := cell_new (W := (wr.alloc (.cells #[i64 wk, i64 ak, i64 ac, i64 ao, i64 an] 44)).alloc (.cells #[i64 8, i64 0, i64 0, i64 0] 26)) (x' := (futC n false)) hwb HB3.out hs3 hl3 (by simp; omega) ((hba2 _).trans (hb3.mono (by simp; omega))) (.cells #[i64 4, i64 (n), i64 (-1), i64 0, .slice p3 0 c3, i64 0, .bool false] 24)
                exact ⟨k + 1, n, false, p3, c3, by omega, rfl, rfl, by go_num, fun _ => (by have h9 := HT.out; simpa using h9), r1, r2, r3⟩
              case measure => simp [intOf]; omega
            | true =>
              have HO1 := hid (HO.out n true _ ⟨8, 0, 0, 0⟩ (futC n true) n 0 ((HG.out _ (wk64 wk)).trans (by simp)))
              dsimp only [futC, Ce.val, List.length_nil] at HO1
              clear HP HG
              have hnn : (n != n) = false := by simp
              go_wp2_with (go_at_call 14; refine (HO1.out _ _ _ ((hs.alloc _).alloc _)).mono ?_; rintro e w3 ⟨p3, c3, rfl, hs3, hl3, hb3⟩; have HB3 := hid (((HB.out.alloc _).alloc _).below hb3); have hz3 := hb3.size; simp only [World.size_alloc] at hz3; have hlw : wr.heap.size + 1 < w3.heap.size := (by omega); have hD : w3.heap[wr.heap.size + 1]? = some (.cells #[i64 8, i64 0, i64 0, i64 0] 26 (0, 0)) := (hb3.block _ (by simp)).trans (by simpa using heap_alloc_new (wr.alloc (.cells #[i64 wk, i64 ak, i64 ac, i64 ao, i64 an] 44)) _); have d0 := cell_of_row w3 (wr.heap.size + 1) 0 _ _ _ hD; have d3 := cell_of_row w3 (wr.heap.size + 1) 3 _ _ _ hD; simp only [List.getElem?_toArray, List.getElem?_cons_zero, List.getElem?_cons_succ] at d0 d3; clear hD; obtain ⟨⟨y0, y1, y2, y3, y4, y5, y6⟩, yf, yl⟩ := HB3.out.facts; dsimp only [futC, List.length_nil] at y0 y1 y2 y3 y4 y5 y6)
              go_roundw
              case rel =>
                obtain ⟨r1, r2, r3⟩ := cell_new (W := (wr.alloc (.cells #[i64 wk, i64 ak, i64 ac, i64 ao, i64 an] 44)).alloc (.cells #[i64 8, i64 0, i64 0, i64 0] 26)) (x' := (futC n true)) hwb HB3.out hs3 hl3 (by simp; omega) ((hba2 _).trans (hb3.mono (by simp; omega))) (.cells #[i64 4, i64 (n), i64 (-1), i64 0, .slice p3 0 c3, i64 0, .bool true] 24)
                exact ⟨k + 1, n, true, p3, c3, by omega, rfl, rfl, by go_num, by simp, r1, r2, r3⟩
              case measure => simp [intOf]; omega
          · have hj1 : (j == 1) = false := by simpa using hj1
            cases T with
            | false =>
              have HO1 := hid (HO.out n false _ ⟨8, 0, 0, 0⟩ (futC n false) 0 231 ((HG.out _ (wk64 wk)).trans (by simp)))
              dsimp only [futC, Ce.val, List.length_nil] at HO1
              clear HP HG
              go_wp2_with (go_at_call 14; refine (HO1.out _ _ _ ((hs.alloc _).alloc _)).mono ?_; rintro e w3 ⟨p3, c3, rfl, hs3, hl3, hb3⟩; have HB3 := hid (((HB.out.alloc _).alloc _).below hb3); have hz3 := hb3.size; simp only [World.size_alloc] at hz3; have hlw : wr.heap.size + 1 < w3.heap.size := (by omega); have hD : w3.heap[wr.heap.size + 1]? = some (.cells #[i64 8, i64 0, i64 0, i64 0] 26 (0, 0)) := (hb3.block _ (by simp)).trans (by simpa using heap_alloc_new (wr.alloc (.cells #[i64 wk, i64 ak, i64 ac, i64 ao, i64 an] 44)) _); have d0 := cell_of_row w3 (wr.heap.size + 1) 0 _ _ _ hD; have d3 := cell_of_row w3 (wr.heap.size + 1) 3 _ _ _ hD; simp only [List.getElem?_toArray, List.getElem?_cons_zero, List.getElem?_cons_succ] at d0 d3; clear hD; obtain ⟨⟨y0, y1, y2, y3, y4, y5, y6⟩, yf, yl⟩ := HB3.out.facts; dsimp only [futC, List.length_nil] at y0 y1 y2 y3 y4 y5 y6)
              go_roundw
              case rel =>
                obtain ⟨r1, r2, r3⟩ := cell_new (W := (wr.alloc (.cells #[i64 wk, i64 ak, i64 ac, i64 ao, i64 an] 44)).alloc (.cells #[i64 8, i64 0, i64 0, i64 0] 26)) (x' := (futC n false)) hwb HB3.out hs3 hl3 (by simp; omega) ((hba2 _).trans (hb3.mono (by simp; omega))) (.cells #[i64 4, i64 (n), i64 (-1), i64 0, .slice p3 0 c3, i64 0, .bool false] 24)
                exact ⟨k + 1, n, false, p3, c3, by omega, rfl, rfl, by go_num, fun _ => (by have h9 := HT.out; simpa using h9), r1, r2, r3⟩
              case measure => simp [intOf]; omega
            | true =>
              have HO1 := hid (HO.out n true _ ⟨8, 0, 0, 0⟩ (futC n true) n 0 ((HG.out _ (wk64 wk)).trans (by simp)))
              dsimp only [futC, Ce.val, List.length_nil] at HO1
              clear HP HG
              have hnn : (n != n) = false := by simp
              go_wp2_with (go_at_call 14; refine (HO1.out _ _ _ ((hs.alloc _).alloc _)).mono ?_; rintro e w3 ⟨p3, c3, rfl, hs3, hl3, hb3⟩; have HB3 := hid (((HB.out.alloc _).alloc _).below hb3); have hz3 := hb3.size; simp only [World.size_alloc] at hz3; have hlw : wr.heap.size + 1 < w3.heap.size := (by omega); have hD : w3.heap[wr.heap.size + 1]? = some (.cells #[i64 8, i64 0, i64 0, i64 0] 26 (0, 0)) := (hb3.block _ (by simp)).trans (by simpa using heap_alloc_new (wr.alloc (.cells #[i64 wk, i64 ak, i64 ac, i64 ao, i64 an] 44)) _); have d0 := cell_of_row w3 (wr.heap.size + 1) 0 _ _ _ hD; have d3 := cell_of_row w3 (wr.heap.size + 1) 3 _ _ _ hD; simp only [List.getElem?_toArray, List.getElem?_cons_zero, List.getElem?_cons_succ] at d0 d3; clear hD; obtain ⟨⟨y0, y1, y2, y3, y4, y5, y6⟩, yf, yl⟩ := HB3.out.facts; dsimp only [futC, List.length_nil] at y0 y1 y2 y3 y4 y5 y6)
              go_roundw
              case rel =>
                obtain ⟨r1, r2, r3⟩ := cell_new (W := (wr.alloc (.cells #[i64 wk, i64 ak, i64 ac, i64 ao, i64 an] 44)).alloc (.cells #[i64 8, i64 0, i64 0, i64 0] 26)) (x' := (futC n true)) hwb HB3.out hs3 hl3 (by simp; omega) ((hba2 _).trans (hb3.mono (by simp; omega))) (.cells #[i64 4, i64 (n), i64 (-1), i64 0, .slice p3 0 c3, i64 0, .bool true] 24)
                exact ⟨k + 1, n, true, p3, c3, by omega, rfl, rfl, by go_num, by simp, r1, r2, r3⟩
              case measure => simp [intOf]; omega
      · have hkx : k = 200 := by omega
        subst hkx
        go_wp2
        go_ret
        exact ⟨ret_bool (by simp), hbw⟩

theorem put_walk (w : World) (ov : Option Addr) (cv : Nat) (vs : List Int)
    (okv : vs.length ≤ cv ∧ cv ≤ maxLen ∧ (ov = none → cv = 0) ∧ Row w ov (vs.map (Value.int .i64)) ∧ (∀ n ∈ vs, (Lit.int .i64 n).wf = true) ∧ cv * Try.prog.bytesOf 2 ≤ 140737488351232) (o : Option Addr) (c : Nat) (ds : List DoR)
    (ok : ds.length ≤ c ∧ c ≤ maxLen ∧ (o = none → c = 0) ∧ Row w o (ds.flatMap DoR.cells) ∧ (∀ x ∈ ds, x.ok) ∧ c * Try.prog.bytesOf 44 ≤ 140737488351232) :
    Calls Try.prog 7 #[.slice ov vs.length cv, .slice o ds.length c] w fun e w' => e = .returned (.bool true) ∧ Below w.heap.size w w' := by
  obtain ⟨h1, h2, _, h4, _, _⟩ := ok
  obtain ⟨g1, g2, _, g4, _, _⟩ := okv
  by_cases hl : ds.length ≤ 200
  · exact put_core w ov cv vs g1 g2 g4 o c ds.length ds h1 h2 h4 (.inl ⟨rfl, hl⟩)
  · exact put_core w ov cv vs g1 g2 g4 o c 200 ds h1 h2 h4 (.inr ⟨rfl, by omega⟩)
end Go.Proofs.Ytfpgdaefdpjcmaa
