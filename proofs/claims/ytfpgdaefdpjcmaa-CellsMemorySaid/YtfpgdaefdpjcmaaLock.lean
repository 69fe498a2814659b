/-
  The walk of CellsLock.
-/
import Derived.Test.YtfpgdaefdpjcmaaStays
namespace Go.Proofs.Ytfpgdaefdpjcmaa
open Go.RowKit

def doRow (ds : List DoR) : List Value := ds.flatMap DoR.cells
theorem doRow_len (ds : List DoR) : (doRow ds).length = 5 * ds.length := flat_len _ 5 (fun _ => rfl) ds
/-- The five cells of element k. -/
theorem do_cells {w : World} {b o : Nat} {ds : List DoR} (h : Row w (some ⟨b, o, none⟩) (doRow ds)) (k : Nat) (hk : k < ds.length) :
    w.cell? ⟨b, o + k * 5, none⟩ = some (i64 ds[k].wk) ∧ w.cell? ⟨b, o + k * 5 + 1, none⟩ = some (i64 ds[k].a.kind) ∧ w.cell? ⟨b, o + k * 5 + 2, none⟩ = some (i64 ds[k].a.cell) ∧ w.cell? ⟨b, o + k * 5 + 3, none⟩ = some (i64 ds[k].a.old) ∧
    w.cell? ⟨b, o + k * 5 + 4, none⟩ = some (i64 ds[k].a.new) := by
  have each : ∀ j (hj : j < 5), w.cell? ⟨b, o + (k * 5 + j), none⟩ = (DoR.cells ds[k])[j]? := fun j hj => by
    have hl := doRow_len ds
    rw [show k * 5 + j = 5 * k + j from by omega]
    rw [h.cell (5 * k + j) (by omega), ← flat_get DoR.cells 5 (fun _ => rfl) ds k hk j hj]
    exact (List.getElem?_eq_getElem (by have : 5 * k + j < (doRow ds).length := by omega
                                        exact this)).symm
  exact ⟨each 0 (by omega), each 1 (by omega), each 2 (by omega), each 3 (by omega), each 4 (by omega)⟩

def lockC (h : Int) : Ce := ⟨2, 0, h, 0, [], 0, false⟩
theorem lock_ok (h wk : Int) (a : Ac) (hE : (oneP (lockC h) wk a).2.2 = 0) :
    (a.kind = 3 ∧ h = -1 ∧ oneP (lockC h) wk a = (lockC wk, 0, 0)) ∨ (a.kind = 4 ∧ h = wk ∧ oneP (lockC h) wk a = (lockC (-1), 0, 0)) := by
  unfold oneP at hE ⊢
  split at hE
  · exact absurd hE (by simp)
  · rename_i h1
    rw [if_neg h1]
    split at hE
    · exact absurd hE (by simp)
    · rename_i h2
      rw [if_neg h2]
      unfold stepP lockC at hE ⊢
      simp only [reduceIte, Int.reduceEq] at hE ⊢
      split at hE
      · rename_i h3
        rw [if_pos h3]
        split at hE
        · exact absurd hE (by simp)
        · rename_i h4
          rw [if_neg h4]
          split at hE
          · rename_i h5
            rw [if_pos h5]
            exact .inl ⟨h3, h5, rfl⟩
          · exact absurd hE (by simp)
      · rename_i h3
        rw [if_neg h3]
        split at hE
        · rename_i h4
          rw [if_pos h4]
          split at hE
          · rename_i h5
            rw [if_pos h5]
            exact .inr ⟨h4, h5, rfl⟩
          · exact absurd hE (by simp)
        · exact absurd hE (by simp)

set_option maxRecDepth 20000 in
set_option maxHeartbeats 8000000 in
theorem lock_core (w : World) (o : Option Addr) (c m : Nat) (ds : List DoR) (hc : ds.length ≤ c) (hcm : c ≤ maxLen) (hrow : Row w o (doRow ds))
    (hm : m = ds.length ∧ ds.length ≤ 300 ∨ m = 300 ∧ 300 < ds.length) :
    Calls Try.prog 5 #[.slice o ds.length c] w fun e w' => e = .returned (.bool true) ∧ Below w.heap.size w w' := by
  unfold maxLen at hcm
  have HLV := hid (live_any)
  have HM : Hid (∀ w1, Calls Try.prog 16 #[i64 2, i64 0] w1 fun e w' => ∃ p c, e = .returned (.tuple #[.agg #[i64 2, i64 0, i64 (-1), i64 0, .slice p 0 c, i64 0, .bool false], i64 0]) ∧ SlAt w' p c [] ∧ Below w1.heap.size w1 w') := fun w1 => make_at 2 0 ⟨2, 0, -1, 0, [], 0, false⟩ 0 (by decide) w1
  have HO := hid (fun (h wk : Int) (a : Ac) (X : Ce) (V E : Int) (hr : oneP (lockC h) wk a = (X, V, E)) (p : Option Addr) (c : Nat) w1 (hs : SlAt w1 p c []) =>
    show Calls Try.prog 14 #[.agg #[i64 2, i64 0, i64 h, i64 0, .slice p 0 c, i64 0, .bool false], i64 wk, .agg #[i64 a.kind, i64 a.cell, i64 a.old, i64 a.new]] w1 (fun e w' => ∃ p c, e = .returned (.tuple #[X.val p c, i64 V, i64 E]) ∧ SlAt w' p c X.came ∧ (∀ q, p = some q → w1.heap.size ≤ q.block ∧ q.block < w'.heap.size) ∧ Below w1.heap.size w1 w') from
      one_at (lockC h) X wk a V E hr (by simp [lockC]) p c w1 hs)
  have HRS := hid (fun (h : Int) w1 (p1 p2 : Option Addr) (c1 c2 : Nat) (h1 : SlAt w1 p1 c1 []) (h2 : SlAt w1 p2 c2 []) => rsame_any (lockC h) (lockC h) p1 p2 c1 c2 w1 h1 h2)
  simp only [decide_true] at HRS
  unfold lockC Ce.val at HRS
  dsimp only [List.length_nil] at HRS
  rcases hm with ⟨rfl, hl⟩ | ⟨rfl, hl⟩
  · go_enter Try.func5, Try.ntmps5
    go_wp2_with (first
      | (go_at_call 11; refine (HLV.out _).mono ?_; rintro e w1 ⟨rfl, hb1⟩)
      | (go_at_call 16; refine (HM.out _).mono ?_; rintro e w2 ⟨p2, c2, rfl, hs2, hb2⟩; have hbw2 := hb1.trans (hb2.mono hb1.size)))
    obtain ⟨b, hb⟩ : ∃ b, b = w2.heap.size := ⟨_, rfl⟩
    have hwb : w.heap.size ≤ b := by rw [hb]; exact hbw2.size
    rw [← hb]
    have HST : Hid (CeBlk (w2.alloc (.cells #[i64 2, i64 0, i64 (-1), i64 0, .slice p2 0 c2, i64 0, .bool false] 24)) b (lockC (-1)) p2 c2 ∧ SlAt (w2.alloc (.cells #[i64 2, i64 0, i64 (-1), i64 0, .slice p2 0 c2, i64 0, .bool false] 24)) p2 c2 [] ∧ Below w.heap.size w (w2.alloc (.cells #[i64 2, i64 0, i64 (-1), i64 0, .slice p2 0 c2, i64 0, .bool false] 24))) := by
      rw [hb]
      exact ⟨ceblk_new w2 (lockC (-1)) p2 c2, hs2.alloc _, hbw2.alloc hbw2.size _⟩
    clear hb hs2 hb1 hb2 hbw2
    go_loopw [5, 25] (fun s i wr => ∃ (k : Nat) (h : Int) (p' : Option Addr) (c' : Nat), k ≤ ds.length ∧ i = .int .i64 k ∧ s = .int .i64 h ∧ CeBlk wr b (lockC h) p' c' ∧ SlAt wr p' c' [] ∧ Below w.heap.size w wr) (fun _ i _ => ds.length - (intOf i).toNat)
    case atStart => exact ⟨0, -1, p2, c2, Nat.zero_le _, rfl, rfl, HST.out.1, HST.out.2.1, HST.out.2.2⟩
    case round =>
      clear HST
      obtain ⟨k, h, p', c', hk, rfl, rfl, hblk, hs, hbw⟩ := hrel
      have HB := hid hblk
      obtain ⟨⟨k0, k1, k2, k3, k4, k5, k6⟩, kf, kl⟩ := hblk.facts
      dsimp only [lockC, List.length_nil] at k0 k1 k2 k3 k4 k5 k6
      clear hblk
      have hsz := hbw.size
      by_cases hlt : k < ds.length
      · obtain ⟨b1, o1, rfl, hb1, hz1⟩ := hrow.at (by have := doRow_len ds; omega)
        clear hz1
        obtain ⟨c0, c1, c2', c3', c4⟩ := do_cells (hrow.below hbw) k (by omega)
        have hOK := lock_ok h (ds[k]'(by omega)).wk (ds[k]'(by omega)).a
        have hER := oneP_err (lockC h) (ds[k]'(by omega)).wk (ds[k]'(by omega)).a
        obtain ⟨d, hd⟩ : ∃ d, d = ds[k]'(by omega) := ⟨_, rfl⟩
        rw [← hd] at c0 c1 c2' c3' c4 hOK hER
        clear hd
        obtain ⟨wk, ak, ac, ao, an⟩ := d
        dsimp only at c0 c1 c2' c3' c4 hOK hER
        have hba := hbw.alloc hsz (.cells #[i64 wk, i64 ak, i64 ac, i64 ao, i64 an] 44)
        by_cases hE : (oneP (lockC h) wk ⟨ak, ac, ao, an⟩).2.2 = 0
        · rcases hOK hE with ⟨h3, h4, hr⟩ | ⟨h3, h4, hr⟩
          · subst h3 h4
            have HO1 := hid (HO.out (-1) wk ⟨3, ac, ao, an⟩ (lockC wk) 0 0 hr)
            dsimp only [lockC, Ce.val, List.length_nil] at HO1
            clear hOK hER hE hr
            go_wp2_with (go_at_call 14; refine (HO1.out _ _ _ (hs.alloc _)).mono ?_; rintro e w3 ⟨p3, c3, rfl, hs3, hl3, hb3⟩; have HB3 := hid ((HB.out.alloc _).below hb3); have hz3 := hb3.size; simp only [World.size_alloc] at hz3; have hlw : wr.heap.size < w3.heap.size := (by omega); have hD : w3.heap[wr.heap.size]? = some (.cells #[i64 wk, i64 3, i64 ac, i64 ao, i64 an] 44 (0, 0)) := (hb3.block _ (by simp)).trans (heap_alloc_new wr _); have d0 := cell_of_row w3 wr.heap.size 0 _ _ _ hD; have d1 := cell_of_row w3 wr.heap.size 1 _ _ _ hD; simp only [List.getElem?_toArray, List.getElem?_cons_zero, List.getElem?_cons_succ] at d0 d1; clear hD; obtain ⟨⟨y0, y1, y2, y3, y4, y5, y6⟩, yf, yl⟩ := HB3.out.facts; dsimp only [lockC, List.length_nil] at y0 y1 y2 y3 y4 y5 y6)
            go_roundw
            case rel =>
              obtain ⟨r1, r2, r3⟩ := cell_new (W := wr.alloc (.cells #[i64 wk, i64 3, i64 ac, i64 ao, i64 an] 44)) (x' := lockC wk) hwb HB3.out hs3 hl3 (by simp; omega) (hba.trans (hb3.mono (by simp; omega))) (.cells #[i64 2, i64 0, i64 wk, i64 0, .slice p3 0 c3, i64 0, .bool false] 24)
              exact ⟨k + 1, wk, p3, c3, by omega, by go_num, rfl, r1, r2, r3⟩
            case measure => simp [intOf]; omega
          · subst h3 h4
            have HO1 := hid (HO.out h h ⟨4, ac, ao, an⟩ (lockC (-1)) 0 0 hr)
            dsimp only [lockC, Ce.val, List.length_nil] at HO1
            have hww : (h != h) = false := by simp
            clear hOK hER hE hr
            go_wp2_with (go_at_call 14; refine (HO1.out _ _ _ (hs.alloc _)).mono ?_; rintro e w3 ⟨p3, c3, rfl, hs3, hl3, hb3⟩; have HB3 := hid ((HB.out.alloc _).below hb3); have hz3 := hb3.size; simp only [World.size_alloc] at hz3; have hlw : wr.heap.size < w3.heap.size := (by omega); have hD : w3.heap[wr.heap.size]? = some (.cells #[i64 h, i64 4, i64 ac, i64 ao, i64 an] 44 (0, 0)) := (hb3.block _ (by simp)).trans (heap_alloc_new wr _); have d0 := cell_of_row w3 wr.heap.size 0 _ _ _ hD; have d1 := cell_of_row w3 wr.heap.size 1 _ _ _ hD; simp only [List.getElem?_toArray, List.getElem?_cons_zero, List.getElem?_cons_succ] at d0 d1; clear hD; obtain ⟨⟨y0, y1, y2, y3, y4, y5, y6⟩, yf, yl⟩ := HB3.out.facts; dsimp only [lockC, List.length_nil] at y0 y1 y2 y3 y4 y5 y6)
            go_roundw
            case rel =>
              obtain ⟨r1, r2, r3⟩ := cell_new (W := wr.alloc (.cells #[i64 h, i64 4, i64 ac, i64 ao, i64 an] 44)) (x' := lockC (-1)) hwb HB3.out hs3 hl3 (by simp; omega) (hba.trans (hb3.mono (by simp; omega))) (.cells #[i64 2, i64 0, i64 (-1), i64 0, .slice p3 0 c3, i64 0, .bool false] 24)
              exact ⟨k + 1, -1, p3, c3, by omega, by go_num, rfl, r1, r2, r3⟩
            case measure => simp [intOf]; omega
        · obtain ⟨hX, hV⟩ := hER hE
          have HO1 := HO.out h wk ⟨ak, ac, ao, an⟩ (lockC h) 0 (oneP (lockC h) wk ⟨ak, ac, ao, an⟩).2.2 (Prod.ext hX (Prod.ext hV rfl))
          obtain ⟨E, hEE⟩ : ∃ E, E = (oneP (lockC h) wk ⟨ak, ac, ao, an⟩).2.2 := ⟨_, rfl⟩
          rw [← hEE] at HO1 hE
          have hne : (E != 0) = true := by simpa using hE
          have HO1 := hid HO1
          dsimp only [lockC, Ce.val, List.length_nil] at HO1
          clear hOK hER hE hX hV hEE
          go_wp2_with (first
            | (go_at_call 14; refine (HO1.out _ _ _ (hs.alloc _)).mono ?_; rintro e w3 ⟨p3, c3, rfl, hs3, hl3, hb3⟩; have HB3 := hid ((HB.out.alloc _).below hb3); have hz3 := hb3.size; simp only [World.size_alloc] at hz3; have hs3' := (hs.alloc (.cells #[i64 wk, i64 ak, i64 ac, i64 ao, i64 an] 44)).below hb3; obtain ⟨⟨y0, y1, y2, y3, y4, y5, y6⟩, yf, yl⟩ := HB3.out.facts; dsimp only [lockC, List.length_nil] at y0 y1 y2 y3 y4 y5 y6)
            | (go_at_call 18; refine (HRS.out h _ _ _ _ _ (hs3.alloc _) (hs3'.alloc _)).mono ?_; rintro e w4 ⟨rfl, hb4⟩))
          have hb3w := hba.trans (hb3.mono (by simp; omega))
          go_roundw
          case rel => exact ⟨k + 1, h, p', c', by omega, by go_num, rfl, (HB3.out.alloc _).below hb4, (hs3'.alloc _).below hb4, (hb3w.alloc hb3w.size _).trans (hb4.mono (by have := hb3w.size; simp; omega))⟩
          case measure => simp [intOf]; omega
      · have hkx : k = ds.length := by omega
        subst hkx
        have hww : (h == h) = true := by simp
        go_wp2
        go_ret
        exact ⟨ret_bool (by simp), hbw⟩
  · go_enter Try.func5, Try.ntmps5
    go_wp2_with (first
      | (go_at_call 11; refine (HLV.out _).mono ?_; rintro e w1 ⟨rfl, hb1⟩)
      | (go_at_call 16; refine (HM.out _).mono ?_; rintro e w2 ⟨p2, c2, rfl, hs2, hb2⟩; have hbw2 := hb1.trans (hb2.mono hb1.size)))
    obtain ⟨b, hb⟩ : ∃ b, b = w2.heap.size := ⟨_, rfl⟩
    have hwb : w.heap.size ≤ b := by rw [hb]; exact hbw2.size
    rw [← hb]
    have HST : Hid (CeBlk (w2.alloc (.cells #[i64 2, i64 0, i64 (-1), i64 0, .slice p2 0 c2, i64 0, .bool false] 24)) b (lockC (-1)) p2 c2 ∧ SlAt (w2.alloc (.cells #[i64 2, i64 0, i64 (-1), i64 0, .slice p2 0 c2, i64 0, .bool false] 24)) p2 c2 [] ∧ Below w.heap.size w (w2.alloc (.cells #[i64 2, i64 0, i64 (-1), i64 0, .slice p2 0 c2, i64 0, .bool false] 24))) := by
      rw [hb]
      exact ⟨ceblk_new w2 (lockC (-1)) p2 c2, hs2.alloc _, hbw2.alloc hbw2.size _⟩
    clear hb hs2 hb1 hb2 hbw2
    go_loopw [5, 25] (fun s i wr => ∃ (k : Nat) (h : Int) (p' : Option Addr) (c' : Nat), k ≤ 300 ∧ i = .int .i64 k ∧ s = .int .i64 h ∧ CeBlk wr b (lockC h) p' c' ∧ SlAt wr p' c' [] ∧ Below w.heap.size w wr) (fun _ i _ => 300 - (intOf i).toNat)
    case atStart => exact ⟨0, -1, p2, c2, Nat.zero_le _, rfl, rfl, HST.out.1, HST.out.2.1, HST.out.2.2⟩
    case round =>
      clear HST
      obtain ⟨k, h, p', c', hk, rfl, rfl, hblk, hs, hbw⟩ := hrel
      have HB := hid hblk
      obtain ⟨⟨k0, k1, k2, k3, k4, k5, k6⟩, kf, kl⟩ := hblk.facts
      dsimp only [lockC, List.length_nil] at k0 k1 k2 k3 k4 k5 k6
      clear hblk
      have hsz := hbw.size
      by_cases hlt : k < 300
      · obtain ⟨b1, o1, rfl, hb1, hz1⟩ := hrow.at (by have := doRow_len ds; omega)
        clear hz1
        obtain ⟨c0, c1, c2', c3', c4⟩ := do_cells (hrow.below hbw) k (by omega)
        have hOK := lock_ok h (ds[k]'(by omega)).wk (ds[k]'(by omega)).a
        have hER := oneP_err (lockC h) (ds[k]'(by omega)).wk (ds[k]'(by omega)).a
        obtain ⟨d, hd⟩ : ∃ d, d = ds[k]'(by omega) := ⟨_, rfl⟩
        rw [← hd] at c0 c1 c2' c3' c4 hOK hER
        clear hd
        obtain ⟨wk, ak, ac, ao, an⟩ := d
        dsimp only at c0 c1 c2' c3' c4 hOK hER
        have hba := hbw.alloc hsz (.cells #[i64 wk, i64 ak, i64 ac, i64 ao, i64 an] 44)
        by_cases hE : (oneP (lockC h) wk ⟨ak, ac, ao, an⟩).2.2 = 0
        · rcases hOK hE with ⟨h3, h4, hr⟩ | ⟨h3, h4, hr⟩
          · subst h3 h4
            have HO1 := hid (HO.out (-1) wk ⟨3, ac, ao, an⟩ (lockC wk) 0 0 hr)
            dsimp only [lockC, Ce.val, List.length_nil] at HO1
            clear hOK hER hE hr
            go_wp2_with (go_at_call 14; refine (HO1.out _ _ _ (hs.alloc _)).mono ?_; rintro e w3 ⟨p3, c3, rfl, hs3, hl3, hb3⟩; have HB3 := hid ((HB.out.alloc _).below hb3); have hz3 := hb3.size; simp only [World.size_alloc] at hz3; have hlw : wr.heap.size < w3.heap.size := (by omega); have hD : w3.heap[wr.heap.size]? = some (.cells #[i64 wk, i64 3, i64 ac, i64 ao, i64 an] 44 (0, 0)) := (hb3.block _ (by simp)).trans (heap_alloc_new wr _); have d0 := cell_of_row w3 wr.heap.size 0 _ _ _ hD; have d1 := cell_of_row w3 wr.heap.size 1 _ _ _ hD; simp only [List.getElem?_toArray, List.getElem?_cons_zero, List.getElem?_cons_succ] at d0 d1; clear hD; obtain ⟨⟨y0, y1, y2, y3, y4, y5, y6⟩, yf, yl⟩ := HB3.out.facts; dsimp only [lockC, List.length_nil] at y0 y1 y2 y3 y4 y5 y6)
            go_roundw
            case rel =>
              obtain ⟨r1, r2, r3⟩ := cell_new (W := wr.alloc (.cells #[i64 wk, i64 3, i64 ac, i64 ao, i64 an] 44)) (x' := lockC wk) hwb HB3.out hs3 hl3 (by simp; omega) (hba.trans (hb3.mono (by simp; omega))) (.cells #[i64 2, i64 0, i64 wk, i64 0, .slice p3 0 c3, i64 0, .bool false] 24)
              exact ⟨k + 1, wk, p3, c3, by omega, by go_num, rfl, r1, r2, r3⟩
            case measure => simp [intOf]; omega
          · subst h3 h4
            have HO1 := hid (HO.out h h ⟨4, ac, ao, an⟩ (lockC (-1)) 0 0 hr)
            dsimp only [lockC, Ce.val, List.length_nil] at HO1
            have hww : (h != h) = false := by simp
            clear hOK hER hE hr
            go_wp2_with (go_at_call 14; refine (HO1.out _ _ _ (hs.alloc _)).mono ?_; rintro e w3 ⟨p3, c3, rfl, hs3, hl3, hb3⟩; have HB3 := hid ((HB.out.alloc _).below hb3); have hz3 := hb3.size; simp only [World.size_alloc] at hz3; have hlw : wr.heap.size < w3.heap.size := (by omega); have hD : w3.heap[wr.heap.size]? = some (.cells #[i64 h, i64 4, i64 ac, i64 ao, i64 an] 44 (0, 0)) := (hb3.block _ (by simp)).trans (heap_alloc_new wr _); have d0 := cell_of_row w3 wr.heap.size 0 _ _ _ hD; have d1 := cell_of_row w3 wr.heap.size 1 _ _ _ hD; simp only [List.getElem?_toArray, List.getElem?_cons_zero, List.getElem?_cons_succ] at d0 d1; clear hD; obtain ⟨⟨y0, y1, y2, y3, y4, y5, y6⟩, yf, yl⟩ := HB3.out.facts; dsimp only [lockC, List.length_nil] at y0 y1 y2 y3 y4 y5 y6)
            go_roundw
            case rel =>
              obtain ⟨r1, r2, r3⟩ := cell_new (W := wr.alloc (.cells #[i64 h, i64 4, i64 ac, i64 ao, i64 an] 44)) (x' := lockC (-1)) hwb HB3.out hs3 hl3 (by simp; omega) (hba.trans (hb3.mono (by simp; omega))) (.cells #[i64 2, i64 0, i64 (-1), i64 0, .slice p3 0 c3, i64 0, .bool false] 24)
              exact ⟨k + 1, -1, p3, c3, by omega, by go_num, rfl, r1, r2, r3⟩
            case measure => simp [intOf]; omega
        · obtain ⟨hX, hV⟩ := hER hE
          have HO1 := HO.out h wk ⟨ak, ac, ao, an⟩ (lockC h) 0 (oneP (lockC h) wk ⟨ak, ac, ao, an⟩).2.2 (Prod.ext hX (Prod.ext hV rfl))
          obtain ⟨E, hEE⟩ : ∃ E, E = (oneP (lockC h) wk ⟨ak, ac, ao, an⟩).2.2 := ⟨_, rfl⟩
          rw [← hEE] at HO1 hE
          have hne : (E != 0) = true := by simpa using hE
          have HO1 := hid HO1
          dsimp only [lockC, Ce.val, List.length_nil] at HO1
          clear hOK hER hE hX hV hEE
          go_wp2_with (first
            | (go_at_call 14; refine (HO1.out _ _ _ (hs.alloc _)).mono ?_; rintro e w3 ⟨p3, c3, rfl, hs3, hl3, hb3⟩; have HB3 := hid ((HB.out.alloc _).below hb3); have hz3 := hb3.size; simp only [World.size_alloc] at hz3; have hs3' := (hs.alloc (.cells #[i64 wk, i64 ak, i64 ac, i64 ao, i64 an] 44)).below hb3; obtain ⟨⟨y0, y1, y2, y3, y4, y5, y6⟩, yf, yl⟩ := HB3.out.facts; dsimp only [lockC, List.length_nil] at y0 y1 y2 y3 y4 y5 y6)
            | (go_at_call 18; refine (HRS.out h _ _ _ _ _ (hs3.alloc _) (hs3'.alloc _)).mono ?_; rintro e w4 ⟨rfl, hb4⟩))
          have hb3w := hba.trans (hb3.mono (by simp; omega))
          go_roundw
          case rel => exact ⟨k + 1, h, p', c', by omega, by go_num, rfl, (HB3.out.alloc _).below hb4, (hs3'.alloc _).below hb4, (hb3w.alloc hb3w.size _).trans (hb4.mono (by have := hb3w.size; simp; omega))⟩
          case measure => simp [intOf]; omega
      · have hkx : k = 300 := by omega
        subst hkx
        have hww : (h == h) = true := by simp
        go_wp2
        go_ret
        exact ⟨ret_bool (by simp), hbw⟩

theorem lock_walk (w : World) (o : Option Addr) (c : Nat) (ds : List DoR)
    (ok : ds.length ≤ c ∧ c ≤ maxLen ∧ (o = none → c = 0) ∧ Row w o (ds.flatMap DoR.cells) ∧ (∀ x ∈ ds, x.ok) ∧ c * Try.prog.bytesOf 44 ≤ 140737488351232) :
    Calls Try.prog 5 #[.slice o ds.length c] w fun e w' => e = .returned (.bool true) ∧ Below w.heap.size w w' := by
  obtain ⟨h1, h2, _, h4, _, _⟩ := ok
  by_cases hl : ds.length ≤ 300
  · exact lock_core w o c ds.length ds h1 h2 h4 (.inl ⟨rfl, hl⟩)
  · exact lock_core w o c 300 ds h1 h2 h4 (.inr ⟨rfl, by omega⟩)
end Go.Proofs.Ytfpgdaefdpjcmaa
