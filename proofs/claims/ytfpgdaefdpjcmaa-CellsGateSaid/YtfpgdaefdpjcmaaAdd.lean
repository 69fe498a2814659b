/-
  The walk of CellsAdd.
-/
import Derived.Test.YtfpgdaefdpjcmaaStays
import Derived.Deep.RegionWith
import Derived.Deep.DeepCutAuto
namespace Go.Proofs.Ytfpgdaefdpjcmaa
open Go.RowKit

theorem ceblk_zero {W w1 : World} (hb : Below (W.alloc (.cells #[.int .i64 0, .int .i64 0, .int .i64 0, .int .i64 0, .slice none 0 0, .int .i64 0, .bool false] 24)).drew.heap.size (W.alloc (.cells #[.int .i64 0, .int .i64 0, .int .i64 0, .int .i64 0, .slice none 0 0, .int .i64 0, .bool false] 24)).drew w1) : CeBlk w1 W.heap.size ce0 none 0 :=
  (ceblk_new W ce0 none 0).drew.below hb

theorem add_step (S v : Int) (j : Nat) (hj : j < 64) : oneP ⟨1, S, -1, 0, [], 0, false⟩ j ⟨9, 0, 0, v⟩ = (⟨1, wrap64 (S + v), -1, 0, [], 0, false⟩, S, 0) := by
  have h1 : okP ⟨1, S, -1, 0, [], 0, false⟩ = true := by simp [okP]
  have h2 : isW j = true := by simp [isW]; omega
  unfold oneP
  rw [h1, h2]
  simp [stepP]

/-- What the call of One leaves: the new cell behind a pointer, the old one where it lay. -/
def AddCut (B b : Nat) (w : World) (old new : Ce) (p' : Option Addr) (c' : Nat) (S : Int) (t s e : Value) (wx : World) : Prop :=
  s = i64 S ∧ e = i64 0 ∧ ∃ (bx : Nat) (p3 : Option Addr) (c3 : Nat), t = .pointer (some ⟨bx, 0, none⟩) ∧ CeBlk wx bx new p3 c3 ∧ CeBlk wx b old p' c' ∧ SlAt wx p3 c3 new.came ∧ b ≠ bx ∧ (∀ q, p3 = some q → q.block ≠ b) ∧ Below B w wx

set_option maxRecDepth 20000 in
set_option maxHeartbeats 4000000 in
theorem add_core (w : World) (n : Int) (o : Option Addr) (c m : Nat) (vs : List Int) (hc : vs.length ≤ c) (hcm : c ≤ maxLen) (hrow : Row w o (i64s vs)) (turn : Int) (ht0 : 0 ≤ turn) (ht1 : turn ≤ 255)
    (hm : m = vs.length ∧ vs.length ≤ 300 ∨ m = 300 ∧ 300 < vs.length) :
    Calls Try.prog 8 #[i64 n, .slice o vs.length c, .int .u8 turn] w fun e w' => e = .returned (.bool true) ∧ Below w.heap.size w w' := by
  unfold maxLen at hcm
  have HLV := hid (live_any)
  have HM : Hid (∀ w1, Calls Try.prog 16 #[i64 1, i64 0] w1 fun e w' => ∃ p c, e = .returned (.tuple #[.agg #[i64 1, i64 0, i64 (-1), i64 0, .slice p 0 c, i64 0, .bool false], i64 0]) ∧ SlAt w' p c [] ∧ Below w1.heap.size w1 w') := fun w1 => make_at 1 0 ⟨1, 0, -1, 0, [], 0, false⟩ 0 (by decide) w1
  have HO := hid (fun (S v : Int) (j : Nat) (hj : j < 64) (p : Option Addr) (c : Nat) w1 (h : SlAt w1 p c []) =>
    show Calls Try.prog 14 #[.agg #[i64 1, i64 S, i64 (-1), i64 0, .slice p 0 c, i64 0, .bool false], i64 j, .agg #[i64 9, i64 0, i64 0, i64 v]] w1 (fun e w' => ∃ p c, e = .returned (.tuple #[.agg #[i64 1, i64 (wrap64 (S + v)), i64 (-1), i64 0, .slice p 0 c, i64 0, .bool false], i64 S, i64 0]) ∧ SlAt w' p c [] ∧ (∀ q, p = some q → w1.heap.size ≤ q.block ∧ q.block < w'.heap.size) ∧ Below w1.heap.size w1 w') from
      one_at ⟨1, S, -1, 0, [], 0, false⟩ _ j ⟨9, 0, 0, v⟩ S 0 (add_step S v j hj) (by simp) p c w1 h)
  rcases hm with ⟨rfl, hl⟩ | ⟨rfl, hl⟩
  · go_enter Try.func8, Try.ntmps8
    go_wp2_with (first
      | (go_at_call 11; refine (HLV.out _).mono ?_; rintro e w1 ⟨rfl, hb1⟩)
      | (go_at_call 16; refine (HM.out _).mono ?_; rintro e w2 ⟨p2, c2, rfl, hs2, hb2⟩; have hbw2 := hb1.trans (hb2.mono hb1.size)))
    obtain ⟨b, hb⟩ : ∃ b, b = w2.heap.size := ⟨_, rfl⟩
    have hwb : w.heap.size ≤ b := by rw [hb]; exact hbw2.size
    rw [← hb]
    have HST : Hid (CeBlk (w2.alloc (.cells #[i64 1, i64 n, i64 (-1), i64 0, .slice p2 0 c2, i64 0, .bool false] 24)) b ⟨1, n, -1, 0, [], 0, false⟩ p2 c2 ∧ SlAt (w2.alloc (.cells #[i64 1, i64 n, i64 (-1), i64 0, .slice p2 0 c2, i64 0, .bool false] 24)) p2 c2 [] ∧ Below w.heap.size w (w2.alloc (.cells #[i64 1, i64 n, i64 (-1), i64 0, .slice p2 0 c2, i64 0, .bool false] 24))) := by
      rw [hb]
      exact ⟨ceblk_new w2 ⟨1, n, -1, 0, [], 0, false⟩ p2 c2, hs2.alloc _, hbw2.alloc hbw2.size _⟩
    clear hb hs2 hb1 hb2 hbw2
    go_loopw [9, 33] (fun s i wr => ∃ (k : Nat) (S : Int) (p' : Option Addr) (c' : Nat), k ≤ vs.length ∧ i = .int .i64 k ∧ s = .int .i64 S ∧ CeBlk wr b ⟨1, S, -1, 0, [], 0, false⟩ p' c' ∧ SlAt wr p' c' [] ∧ Below w.heap.size w wr) (fun _ i _ => vs.length - (intOf i).toNat)
    case atStart => exact ⟨0, n, p2, c2, Nat.zero_le _, rfl, rfl, HST.out.1, HST.out.2.1, HST.out.2.2⟩
    case round =>
      clear HST
      obtain ⟨k, S, p', c', hk, rfl, rfl, hblk, hs, hbw⟩ := hrel
      have HB := hid hblk
      obtain ⟨⟨k0, k1, k2, k3, k4, k5, k6⟩, kf, kl⟩ := hblk.facts
      dsimp only [List.length_nil] at k0 k1 k2 k3 k4 k5 k6
      clear hblk
      have hsz := hbw.size
      by_cases hlt : k < vs.length
      · obtain ⟨q, hq⟩ : ∃ q : Nat, ((k : Int) + turn) % (vs.length : Int) = (q : Int) := ⟨(((k : Int) + turn) % (vs.length : Int)).toNat, by have := Int.emod_nonneg ((k : Int) + turn) (show (vs.length : Int) ≠ 0 by omega); omega⟩
        have hql : q < vs.length := by have := Int.emod_lt_of_pos ((k : Int) + turn) (show (0 : Int) < vs.length by omega); omega
        have hq2 : ((k : Int) + turn).tmod (vs.length : Int) = (q : Int) := by rw [Int.tmod_eq_emod_of_nonneg (by omega)]; exact hq
        obtain ⟨j, hj⟩ : ∃ j : Nat, (k : Int) % 64 = (j : Int) := ⟨k % 64, by omega⟩
        have hj2 : (k : Int).tmod 64 = (j : Int) := by rw [Int.tmod_eq_emod_of_nonneg (by omega)]; exact hj
        have hj3 : j < 64 := by omega
        obtain ⟨b1, o1, rfl, hb1, hz1⟩ := hrow.at (by simp; omega)
        clear hz1
        have c1 := (hrow.below hbw).cell q (by simpa using hql)
        simp only [i64s, List.getElem_map] at c1
        have hbl := World.block_lt_of_cell? wr _ c1
        dsimp only at hbl
        obtain ⟨v, hv⟩ : ∃ v, v = vs[q] := ⟨_, rfl⟩
        rw [← hv] at c1
        have HV := hid hv
        clear hv
        go_upto_region 13 with fail
        go_cut [12, 13, 14] (fun t s e wx => AddCut w.heap.size b w ⟨1, S, -1, 0, [], 0, false⟩ ⟨1, wrap64 (S + v), -1, 0, [], 0, false⟩ p' c' S t s e wx)
        case first =>
          go_region_with (go_at_call 14; refine (HO.out S v j hj3 _ _ _ (by first | exact hs.drew | exact (hs.alloc _).drew)).mono ?_; rintro e w3 ⟨p3, c3, rfl, hs3, hl3, hb3⟩; have HB3 := hid (show CeBlk w3 b ⟨1, S, -1, 0, [], 0, false⟩ p' c' by first | exact HB.out.drew.below hb3 | exact (HB.out.alloc _).drew.below hb3); try (have HZ3 := hid (show CeBlk w3 wr.heap.size ce0 none 0 from ceblk_zero hb3); obtain ⟨⟨z0, z1, z2, z3, z4, z5, z6⟩, zf, zl⟩ := HZ3.out.facts; dsimp only [ce0, List.length_nil] at z0 z1 z2 z3 z4 z5 z6))
          all_goals
            go_wp2_with fail
            go_meet
            have hz3 := hb3.size
            simp at hz3
            first
              | (have tokB := HZ3.out; exact ⟨rfl, rfl, wr.heap.size, p3, c3, rfl, ceblk_store HZ3.out ⟨1, wrap64 (S + v), -1, 0, [], 0, false⟩ p3 c3, ceblk_storeO HB3.out wr.heap.size (by omega) _ _ _ _ _ _ _, slat_store hs3 wr.heap.size _ _ _ _ _ _ _ (fun q hq e => by { have := (hl3 q hq).1; simp at this; omega }), by omega, fun q hq e => by { have := (hl3 q hq).1; simp at this; omega }, below_store (((hbw.alloc hsz _).drew).trans (hb3.mono (by simp; omega))) wr.heap.size hsz _ _ _ _ _ _ _⟩)
              | exact ⟨rfl, rfl, w3.heap.size, p3, c3, rfl, ceblk_new w3 ⟨1, wrap64 (S + v), -1, 0, [], 0, false⟩ p3 c3, HB3.out.alloc _, hs3.alloc _, by omega, fun q hq e => by { have := (hl3 q hq).1; simp at this; omega }, (hbw.drew.trans (hb3.mono (by simp; omega))).alloc (by omega) _⟩
        case rest =>
          obtain ⟨rfl, rfl, bx, p3, c3, rfl, hx, hb', hs3, hne, hp3, hbx⟩ := hcut
          clear k0 k1 k2 k3 k4 k5 k6 kf kl HB hs hbw hsz
          have HX := hid hx
          have HB := hid hb'
          obtain ⟨⟨x0, x1, x2, x3, x4, x5, x6⟩, xf, xl⟩ := hx.facts
          obtain ⟨⟨y0, y1, y2, y3, y4, y5, y6⟩, yf, yl⟩ := hb'.facts
          dsimp only [List.length_nil] at x0 x1 x2 x3 x4 x5 x6 y0 y1 y2 y3 y4 y5 y6
          clear hx hb'
          have c1' := (hrow.below hbx).cell q (by simpa using hql)
          simp only [i64s, List.getElem_map] at c1'
          rw [← HV.out] at c1'
          have hsx := hbx.size
          have hSS : (S != S) = false := by simp
          go_wp2
          go_roundw
          case rel =>
            have r1 := ceblk_store HB.out ⟨1, wrap64 (S + v), -1, 0, [], 0, false⟩ p3 c3
            have r2 := slat_store hs3 b (i64 1) (i64 (wrap64 (S + v))) (i64 (-1)) (i64 0) (.slice p3 0 c3) (i64 0) (.bool false) hp3
            have r3 := below_store hbx b hwb (i64 1) (i64 (wrap64 (S + v))) (i64 (-1)) (i64 0) (.slice p3 0 c3) (i64 0) (.bool false)
            exact ⟨k + 1, wrap64 (S + v), p3, c3, by omega, by go_num, rfl, r1, r2, r3⟩
          case measure => simp [intOf]; omega
      · have hkx : k = vs.length := by omega
        subst hkx
        go_wp2
        go_ret
        exact ⟨ret_bool (by simp), hbw⟩
  · go_enter Try.func8, Try.ntmps8
    go_wp2_with (first
      | (go_at_call 11; refine (HLV.out _).mono ?_; rintro e w1 ⟨rfl, hb1⟩)
      | (go_at_call 16; refine (HM.out _).mono ?_; rintro e w2 ⟨p2, c2, rfl, hs2, hb2⟩; have hbw2 := hb1.trans (hb2.mono hb1.size)))
    obtain ⟨b, hb⟩ : ∃ b, b = w2.heap.size := ⟨_, rfl⟩
    have hwb : w.heap.size ≤ b := by rw [hb]; exact hbw2.size
    rw [← hb]
    have HST : Hid (CeBlk (w2.alloc (.cells #[i64 1, i64 n, i64 (-1), i64 0, .slice p2 0 c2, i64 0, .bool false] 24)) b ⟨1, n, -1, 0, [], 0, false⟩ p2 c2 ∧ SlAt (w2.alloc (.cells #[i64 1, i64 n, i64 (-1), i64 0, .slice p2 0 c2, i64 0, .bool false] 24)) p2 c2 [] ∧ Below w.heap.size w (w2.alloc (.cells #[i64 1, i64 n, i64 (-1), i64 0, .slice p2 0 c2, i64 0, .bool false] 24))) := by
      rw [hb]
      exact ⟨ceblk_new w2 ⟨1, n, -1, 0, [], 0, false⟩ p2 c2, hs2.alloc _, hbw2.alloc hbw2.size _⟩
    clear hb hs2 hb1 hb2 hbw2
    go_loopw [9, 33] (fun s i wr => ∃ (k : Nat) (S : Int) (p' : Option Addr) (c' : Nat), k ≤ 300 ∧ i = .int .i64 k ∧ s = .int .i64 S ∧ CeBlk wr b ⟨1, S, -1, 0, [], 0, false⟩ p' c' ∧ SlAt wr p' c' [] ∧ Below w.heap.size w wr) (fun _ i _ => 300 - (intOf i).toNat)
    case atStart => exact ⟨0, n, p2, c2, Nat.zero_le _, rfl, rfl, HST.out.1, HST.out.2.1, HST.out.2.2⟩
    case round =>
      clear HST
      obtain ⟨k, S, p', c', hk, rfl, rfl, hblk, hs, hbw⟩ := hrel
      have HB := hid hblk
      obtain ⟨⟨k0, k1, k2, k3, k4, k5, k6⟩, kf, kl⟩ := hblk.facts
      dsimp only [List.length_nil] at k0 k1 k2 k3 k4 k5 k6
      clear hblk
      have hsz := hbw.size
      by_cases hlt : k < 300
      · obtain ⟨q, hq⟩ : ∃ q : Nat, ((k : Int) + turn) % (300 : Int) = (q : Int) := ⟨(((k : Int) + turn) % (300 : Int)).toNat, by have := Int.emod_nonneg ((k : Int) + turn) (show (300 : Int) ≠ 0 by omega); omega⟩
        have hql : q < vs.length := by have := Int.emod_lt_of_pos ((k : Int) + turn) (show (0 : Int) < 300 by omega); omega
        have hq2 : ((k : Int) + turn).tmod (300 : Int) = (q : Int) := by rw [Int.tmod_eq_emod_of_nonneg (by omega)]; exact hq
        obtain ⟨j, hj⟩ : ∃ j : Nat, (k : Int) % 64 = (j : Int) := ⟨k % 64, by omega⟩
        have hj2 : (k : Int).tmod 64 = (j : Int) := by rw [Int.tmod_eq_emod_of_nonneg (by omega)]; exact hj
        have hj3 : j < 64 := by omega
        obtain ⟨b1, o1, rfl, hb1, hz1⟩ := hrow.at (by simp; omega)
        clear hz1
        have c1 := (hrow.below hbw).cell q (by simpa using hql)
        simp only [i64s, List.getElem_map] at c1
        have hbl := World.block_lt_of_cell? wr _ c1
        dsimp only at hbl
        obtain ⟨v, hv⟩ : ∃ v, v = vs[q] := ⟨_, rfl⟩
        rw [← hv] at c1
        have HV := hid hv
        clear hv
        go_upto_region 13 with fail
        go_cut [12, 13, 14] (fun t s e wx => AddCut w.heap.size b w ⟨1, S, -1, 0, [], 0, false⟩ ⟨1, wrap64 (S + v), -1, 0, [], 0, false⟩ p' c' S t s e wx)
        case first =>
          go_region_with (go_at_call 14; refine (HO.out S v j hj3 _ _ _ (by first | exact hs.drew | exact (hs.alloc _).drew)).mono ?_; rintro e w3 ⟨p3, c3, rfl, hs3, hl3, hb3⟩; have HB3 := hid (show CeBlk w3 b ⟨1, S, -1, 0, [], 0, false⟩ p' c' by first | exact HB.out.drew.below hb3 | exact (HB.out.alloc _).drew.below hb3); try (have HZ3 := hid (show CeBlk w3 wr.heap.size ce0 none 0 from ceblk_zero hb3); obtain ⟨⟨z0, z1, z2, z3, z4, z5, z6⟩, zf, zl⟩ := HZ3.out.facts; dsimp only [ce0, List.length_nil] at z0 z1 z2 z3 z4 z5 z6))
          all_goals
            go_wp2_with fail
            go_meet
            have hz3 := hb3.size
            simp at hz3
            first
              | (have tokB := HZ3.out; exact ⟨rfl, rfl, wr.heap.size, p3, c3, rfl, ceblk_store HZ3.out ⟨1, wrap64 (S + v), -1, 0, [], 0, false⟩ p3 c3, ceblk_storeO HB3.out wr.heap.size (by omega) _ _ _ _ _ _ _, slat_store hs3 wr.heap.size _ _ _ _ _ _ _ (fun q hq e => by { have := (hl3 q hq).1; simp at this; omega }), by omega, fun q hq e => by { have := (hl3 q hq).1; simp at this; omega }, below_store (((hbw.alloc hsz _).drew).trans (hb3.mono (by simp; omega))) wr.heap.size hsz _ _ _ _ _ _ _⟩)
              | exact ⟨rfl, rfl, w3.heap.size, p3, c3, rfl, ceblk_new w3 ⟨1, wrap64 (S + v), -1, 0, [], 0, false⟩ p3 c3, HB3.out.alloc _, hs3.alloc _, by omega, fun q hq e => by { have := (hl3 q hq).1; simp at this; omega }, (hbw.drew.trans (hb3.mono (by simp; omega))).alloc (by omega) _⟩
        case rest =>
          obtain ⟨rfl, rfl, bx, p3, c3, rfl, hx, hb', hs3, hne, hp3, hbx⟩ := hcut
          clear k0 k1 k2 k3 k4 k5 k6 kf kl HB hs hbw hsz
          have HX := hid hx
          have HB := hid hb'
          obtain ⟨⟨x0, x1, x2, x3, x4, x5, x6⟩, xf, xl⟩ := hx.facts
          obtain ⟨⟨y0, y1, y2, y3, y4, y5, y6⟩, yf, yl⟩ := hb'.facts
          dsimp only [List.length_nil] at x0 x1 x2 x3 x4 x5 x6 y0 y1 y2 y3 y4 y5 y6
          clear hx hb'
          have c1' := (hrow.below hbx).cell q (by simpa using hql)
          simp only [i64s, List.getElem_map] at c1'
          rw [← HV.out] at c1'
          have hsx := hbx.size
          have hSS : (S != S) = false := by simp
          go_wp2
          go_roundw
          case rel =>
            have r1 := ceblk_store HB.out ⟨1, wrap64 (S + v), -1, 0, [], 0, false⟩ p3 c3
            have r2 := slat_store hs3 b (i64 1) (i64 (wrap64 (S + v))) (i64 (-1)) (i64 0) (.slice p3 0 c3) (i64 0) (.bool false) hp3
            have r3 := below_store hbx b hwb (i64 1) (i64 (wrap64 (S + v))) (i64 (-1)) (i64 0) (.slice p3 0 c3) (i64 0) (.bool false)
            exact ⟨k + 1, wrap64 (S + v), p3, c3, by omega, by go_num, rfl, r1, r2, r3⟩
          case measure => simp [intOf]; omega
      · have hkx : k = 300 := by omega
        subst hkx
        go_wp2
        go_ret
        exact ⟨ret_bool (by simp), hbw⟩
end Go.Proofs.Ytfpgdaefdpjcmaa
