/-
  The walk of CellsGate.
-/
import Derived.Test.YtfpgdaefdpjcmaaGateT
import Derived.Test.YtfpgdaefdpjcmaaStays
import Derived.Test.YtfpgdaefdpjcmaaAddW
import Derived.Test.YtfpgdaefdpjcmaaMapDel
namespace Go.Proofs.Ytfpgdaefdpjcmaa
open Go.RowKit

theorem K3 : KeyOk Try.prog 3 (Value.int .i64) := keyOk_int Try.underlying3
theorem zero2 (w : World) : (zeroValue 2).run Try.prog w = .ok (.int .i64 0) w := by kernel_rfl
theorem slat_any {w w' : World} {p : Option Addr} {c : Nat} (h : SlAt w p c []) : SlAt w' p c [] := ⟨h.1, h.2.1, h.2.2.1, Row.nil _ _⟩
theorem slat_map {w w' : World} {p : Option Addr} {c bm : Nat} {l : List Int} (h : SlAt w p c l) (hg : w.grownBy w' (some bm)) (hl : l = [] ∨ ∀ q, p = some q → q.block ≠ bm) : SlAt w' p c l := by
  rcases hl with rfl | hl
  · exact slat_any h
  · exact h.grown hg (fun q hq e => hl q hq (by cases e; rfl))
theorem map_store {w : World} {bm : Nat} {l : List (Int × Int)} (h : MapIs (Value.int .i64) (Value.int .i64) w bm l) (b : Nat) (hne : bm ≠ b) (v0 v1 v2 v3 v4 v5 v6 : Value) :
    MapIs (Value.int .i64) (Value.int .i64) (((((((w.setCell ⟨b, 0, none⟩ v0).setCell ⟨b, 1, none⟩ v1).setCell ⟨b, 2, none⟩ v2).setCell ⟨b, 3, none⟩ v3).setCell ⟨b, 4, none⟩ v4).setCell ⟨b, 5, none⟩ v5).setCell ⟨b, 6, none⟩ v6) bm l := by
  have h0 := h.setO ⟨b, 0, none⟩ v0 hne
  have h1 := h0.setO ⟨b, 1, none⟩ v1 hne
  have h2 := h1.setO ⟨b, 2, none⟩ v2 hne
  have h3 := h2.setO ⟨b, 3, none⟩ v3 hne
  have h4 := h3.setO ⟨b, 4, none⟩ v4 hne
  have h5 := h4.setO ⟨b, 5, none⟩ v5 hne
  exact h5.setO ⟨b, 6, none⟩ v6 hne

set_option maxRecDepth 20000 in
set_option maxHeartbeats 2000000 in
theorem gate_core (w : World) (tn : Int) (ht0 : 0 ≤ tn) (ht1 : tn ≤ 255) (o : Option Addr) (c m : Nat) (ds : List Int) (hds : ∀ v ∈ ds, 0 ≤ v ∧ v ≤ 255) (hc : ds.length ≤ c) (hcm : c ≤ maxLen) (hrow : Row w o (ds.map (Value.int .u8)))
    (hm : m = ds.length ∧ ds.length ≤ 200 ∨ m = 200 ∧ 200 < ds.length) :
    Calls Try.prog 6 #[.int .u8 tn, .slice o ds.length c] w fun e w' => e = .returned (.bool true) ∧ Below w.heap.size w w' := by
  unfold maxLen at hcm
  have HLV := hid (live_any)
  obtain ⟨N, hN, hN1, hN8⟩ : ∃ N : Nat, tn % 8 + 1 = (N : Int) ∧ 1 ≤ N ∧ N ≤ 8 := ⟨(tn % 8 + 1).toNat, by omega, by omega, by omega⟩
  have HM : Hid (∀ w1, Calls Try.prog 16 #[i64 3, i64 N] w1 fun e w' => ∃ p c, e = .returned (.tuple #[.agg #[i64 3, i64 0, i64 (-1), i64 N, .slice p 0 c, i64 0, .bool false], i64 0]) ∧ SlAt w' p c [] ∧ Below w1.heap.size w1 w') := fun w1 => make_at 3 N _ 0 (gate_start N hN1 hN8) w1
  have HO := hid (fun (came : List Int) (T : Int) (wk : Int) (a : Ac) (X : Ce) (V E : Int) (hr : oneP (gateC N came T) wk a = (X, V, E)) (hl : came.length < N) (p : Option Addr) (c : Nat) w1 (hs : SlAt w1 p c came) =>
    show Calls Try.prog 14 #[.agg #[i64 3, i64 0, i64 (-1), i64 N, .slice p came.length c, i64 T, .bool false], i64 wk, .agg #[i64 a.kind, i64 a.cell, i64 a.old, i64 a.new]] w1 (fun e w' => ∃ p c, e = .returned (.tuple #[X.val p c, i64 V, i64 E]) ∧ SlAt w' p c X.came ∧ (∀ q, p = some q → w1.heap.size ≤ q.block ∧ q.block < w'.heap.size) ∧ Below w1.heap.size w1 w') from
      one_at (gateC N came T) X wk a V E hr (by simp [gateC]; omega) p c w1 hs)
  have HG0 := hid (GInv.start N)
  have HOK0 := hid (gate_ok0 N hN1 hN8)
  rcases hm with ⟨rfl, hl⟩ | ⟨rfl, hl⟩
  · have hmm := @run_makeMap Try.prog
    go_enter Try.func6, Try.ntmps6
    go_wp2_with (first
      | (go_at_call 11; refine (HLV.out _).mono ?_; rintro e w1 ⟨rfl, hb1⟩)
      | (go_at_call 16; (try rw [hN]); refine (HM.out _).mono ?_; rintro e w2 ⟨p2, c2, rfl, hs2, hb2⟩; have hbw2 := hb1.trans (hb2.mono hb1.size)))
    obtain ⟨b, hb⟩ : ∃ b, b = w2.heap.size := ⟨_, rfl⟩
    obtain ⟨bm, hbm⟩ : ∃ bm, bm = w2.heap.size + 1 := ⟨_, rfl⟩
    have hwb : w.heap.size ≤ b := by rw [hb]; exact hbw2.size
    have hwbm : w.heap.size ≤ bm := by omega
    have hne : bm ≠ b := by omega
    have HST : Hid (CeBlk ((w2.alloc (.cells #[i64 3, i64 0, i64 (-1), i64 N, .slice p2 0 c2, i64 0, .bool false] 24)).alloc (.map #[] 0)) b (gateC N [] 0) p2 c2 ∧ SlAt ((w2.alloc (.cells #[i64 3, i64 0, i64 (-1), i64 N, .slice p2 0 c2, i64 0, .bool false] 24)).alloc (.map #[] 0)) p2 c2 [] ∧ MapIs (Value.int .i64) (Value.int .i64) ((w2.alloc (.cells #[i64 3, i64 0, i64 (-1), i64 N, .slice p2 0 c2, i64 0, .bool false] 24)).alloc (.map #[] 0)) bm ([] : List (Int × Int)) ∧ Below w.heap.size w ((w2.alloc (.cells #[i64 3, i64 0, i64 (-1), i64 N, .slice p2 0 c2, i64 0, .bool false] 24)).alloc (.map #[] 0))) := by
      rw [hb, hbm]
      have hmm := MapIs.made (κ := Int) (β := Int) (Value.int .i64) (Value.int .i64) (w2.alloc (.cells #[i64 3, i64 0, i64 (-1), i64 N, .slice p2 0 c2, i64 0, .bool false] 24))
      rw [World.size_alloc] at hmm
      exact ⟨(ceblk_new w2 (gateC N [] 0) p2 c2).alloc _, (hs2.alloc _).alloc _, hmm, (hbw2.alloc hbw2.size _).alloc (by have := hbw2.size; simp; omega) _⟩
    rw [← hbm, ← hb]
    clear hmm hb hbm hs2 hb1 hb2 hbw2
    go_loopw [45] (fun i wr => ∃ (k : Nat) (came : List Int) (T : Int) (l : List (Int × Int)) (p' : Option Addr) (c' : Nat), k ≤ ds.length ∧ i = .int .i64 k ∧ 0 ≤ T ∧ T ≤ k ∧ GInv N T came l ∧ okP (gateC N came T) = true ∧ (came = [] ∨ ∀ q, p' = some q → q.block ≠ bm) ∧ CeBlk wr b (gateC N came T) p' c' ∧ SlAt wr p' c' came ∧ MapIs (Value.int .i64) (Value.int .i64) wr bm l ∧ Below w.heap.size w wr) (fun i _ => ds.length - (intOf i).toNat)
    case atStart => exact ⟨0, [], 0, [], p2, c2, Nat.zero_le _, rfl, by omega, by omega, HG0.out, HOK0.out, .inl rfl, HST.out.1, HST.out.2.1, HST.out.2.2.1, HST.out.2.2.2⟩
    case round =>
      clear HST
      obtain ⟨k, came, T, l, p', c', hk, rfl, hT0, hTk, hgi, hok, hloc, hblk, hs, hmap, hbw⟩ := hrel
      have HB := hid hblk
      have HGI := hid hgi
      have HOK := hid hok
      have HLOC := hid hloc
      have hcl : came.length < N := by have := gate_len hok; omega
      obtain ⟨⟨k0, k1, k2, k3, k4, k5, k6⟩, kf, kl⟩ := hblk.facts
      dsimp only [gateC] at k0 k1 k2 k3 k4 k5 k6
      clear hblk hgi hok hloc
      have hml := hmap.lt
      have hsz := hbw.size
      by_cases hlt : k < ds.length
      · obtain ⟨b1, o1, rfl, hb1, hz1⟩ := hrow.at (by simp; omega)
        clear hz1
        have c1 := (hrow.below hbw).cell k (by simp; omega)
        simp only [List.getElem_map] at c1
        have hdk := hds _ (List.getElem_mem (show k < ds.length by omega))
        obtain ⟨ob, hob⟩ : ∃ ob, ob = ds[k]'(by omega) := ⟨_, rfl⟩
        rw [← hob] at c1 hdk
        clear hob
        obtain ⟨hd0, hd1⟩ := hdk
        obtain ⟨q, hq⟩ : ∃ q : Nat, ob.tmod (N : Int) = (q : Int) := ⟨(ob.tmod (N : Int)).toNat, by rw [Int.tmod_eq_emod_of_nonneg (by omega)]; have := Int.emod_nonneg ob (show (N : Int) ≠ 0 by omega); omega⟩
        have hq2 : ob % (N : Int) = (q : Int) := by rw [← hq, Int.tmod_eq_emod_of_nonneg (by omega)]
        have hqN : q < N := by rw [Int.tmod_eq_emod_of_nonneg (by omega)] at hq; have := Int.emod_lt_of_pos ob (show (0 : Int) < N by omega); omega
        have HW : Hid (isW (q : Int) = true) := by simp [Hid, isW]; omega
        cases hlk : alook l (q : Int) with
        | some t =>
          have htT := HGI.out.told _ _ hlk
          have HP := hid (gate_pass HOK.out q HW.out t)
          by_cases hTt : T ≤ t
          · have HO1 := hid (HO.out came T q ⟨6, 0, t, 0⟩ (gateC N came T) 0 231 (HP.out.trans (if_pos hTt)) hcl)
            dsimp only [gateC, Ce.val] at HO1
            obtain rfl : T = t := by omega
            clear HP hTt htT
            go_wp2_with (first
              | ((with_reducible show wpList _ _ _ (⟨some 56, _, _, _, _, _⟩ :: _) _ _); go_loud (refine wpList_maplook K3 Try.underlying47 rfl _ _ true rfl (.int .i64 0) (zero2 _) _ _ rfl hmap (q : Int) rfl ?_); simp only [hlk, Option.map_some, Option.getD_some, Option.isSome_some, if_true])
              | (go_at_call 14; refine (HO1.out _ _ _ hs).mono ?_; rintro e w3 ⟨p3, c3, rfl, hs3, hl3, hb3⟩; have HB3 := hid (HB.out.below hb3); have hz3 := hb3.size; obtain ⟨⟨y0, y1, y2, y3, y4, y5, y6⟩, yf, yl⟩ := HB3.out.facts; dsimp only [gateC] at y0 y1 y2 y3 y4 y5 y6))
            go_roundw
            case rel =>
              exact ⟨k + 1, came, T, l, p', c', by omega, by go_num, hT0, by omega, HGI.out, HOK.out, HLOC.out, HB3.out.alloc _, (hs.below hb3).alloc _, (hmap.below hb3 hml).alloc _, (hbw.trans (hb3.mono hsz)).alloc (by omega) _⟩
            case measure => simp [intOf]; omega
          · have HO1 := hid (HO.out came T q ⟨6, 0, t, 0⟩ (gateC N came T) T 0 (HP.out.trans (if_neg hTt)) hcl)
            dsimp only [gateC, Ce.val] at HO1
            have hTt2 : t < T := by omega
            have HG2 := hid (HGI.out.del _ hlk hTt2)
            clear HP hTt htT
            go_wp2_with (first
              | ((with_reducible show wpList _ _ _ (⟨some 56, _, _, _, _, _⟩ :: _) _ _); go_loud (refine wpList_maplook K3 Try.underlying47 rfl _ _ true rfl (.int .i64 0) (zero2 _) _ _ rfl hmap (q : Int) rfl ?_); simp only [hlk, Option.map_some, Option.getD_some, Option.isSome_some, if_true])
              | (go_at_call 14; refine (HO1.out _ _ _ hs).mono ?_; rintro e w3 ⟨p3, c3, rfl, hs3, hl3, hb3⟩; have HB3 := hid (HB.out.below hb3); have hz3 := hb3.size; have hm3 := (hmap.below hb3 hml).alloc (.cells #[i64 3, i64 0, i64 (-1), i64 N, .slice p3 came.length c3, i64 T, .bool false] 24); obtain ⟨⟨y0, y1, y2, y3, y4, y5, y6⟩, yf, yl⟩ := HB3.out.facts; dsimp only [gateC] at y0 y1 y2 y3 y4 y5 y6)
              | ((with_reducible show wpList _ _ _ (⟨none, .call _, _, _, _, _⟩ :: _) _ _); go_loud (refine wpList_mapdel K3 Try.underlying47 rfl _ _ rfl _ _ rfl hm3 (q : Int) rfl ?_); intro w4 hm4 hg4; have HB4 := hid ((HB3.out.alloc _).grown hg4 (fun e => hne (by cases e; rfl))); have hs4 := slat_map ((hs.below hb3).alloc _) hg4 HLOC.out; have hbw4 := ((hbw.trans (hb3.mono hsz)).alloc (by omega) _).grown hg4 (by simp; omega) (fun g e => by cases e; exact hwbm)))
            go_roundw
            case rel => exact ⟨k + 1, came, T, adel l q, p', c', by omega, by go_num, hT0, by omega, HG2.out, HOK.out, HLOC.out, HB4.out, hs4, hm4, hbw4⟩
            case measure => simp [intOf]; omega
        | none =>
          have hnm : (q : Int) ∉ came := fun hm => by
            have := (HGI.out.here q (by omega) (by omega)).2 hm
            rw [hlk] at this
            cases this
          have HP := hid (gate_arrive HOK.out q HW.out hnm (by omega))
          have HEO := hid (oneP_ok (gateC N came T) q ⟨5, 0, 0, 0⟩)
          obtain ⟨came2, T2, hr, HG2⟩ : ∃ came2 T2, oneP (gateC N came T) q ⟨5, 0, 0, 0⟩ = (gateC N came2 T2, T, 0) ∧ Hid (GInv N T2 came2 (aset l q T) ∧ 0 ≤ T2 ∧ T2 ≤ k + 1) := by
            by_cases hfull : (came.length : Int) + 1 = N
            · exact ⟨[], T + 1, HP.out.trans (if_pos hfull), HGI.out.full q, by omega, by omega⟩
            · exact ⟨came ++ [(q : Int)], T, HP.out.trans (if_neg hfull), HGI.out.more q (by omega) (by omega) hlk, by omega, by omega⟩
          have HO1 := hid (HO.out came T q ⟨5, 0, 0, 0⟩ (gateC N came2 T2) T 0 hr hcl)
          have HOK2 : Hid (okP (gateC N came2 T2) = true) := by have := HEO.out; rw [hr] at this; exact this rfl
          have hcl2 : came2.length < N := by have := gate_len HOK2.out; omega
          dsimp only [gateC, Ce.val] at HO1
          clear HP HEO hr hnm
          obtain ⟨l2, hl2⟩ : ∃ l2, l2 = aset l q T := ⟨_, rfl⟩
          rw [← hl2] at HG2
          have HL2 := hid hl2
          clear hl2
          go_wp2_with (first
            | ((with_reducible show wpList _ _ _ (⟨some 56, _, _, _, _, _⟩ :: _) _ _); go_loud (refine wpList_maplook K3 Try.underlying47 rfl _ _ true rfl (.int .i64 0) (zero2 _) _ _ rfl hmap (q : Int) rfl ?_); simp only [hlk, Option.map_none, Option.getD_none, Option.isSome_none, if_true])
            | (go_at_call 14; refine (HO1.out _ _ _ hs).mono ?_; rintro e w3 ⟨p3, c3, rfl, hs3, hl3, hb3⟩; have HB3 := hid (HB.out.below hb3); have hz3 := hb3.size; have hm3 := (hmap.below hb3 hml).alloc (.cells #[i64 3, i64 0, i64 (-1), i64 N, .slice p3 came2.length c3, i64 T2, .bool false] 24))
            | ((with_reducible show wpList _ _ _ (⟨none, .mapUpdate _ _ _ _, _, _, _, _⟩ :: _) _ _); go_loud (refine wpList_mapset K3 Try.underlying47 rfl _ _ _ (.inl rfl) _ _ rfl hm3 (q : Int) rfl T rfl ?_); intro w4 hm4 hg4; have HM4 := hid hm4; have HB4 := hid ((HB3.out.alloc (.cells #[i64 3, i64 0, i64 (-1), i64 N, .slice p3 came2.length c3, i64 T2, .bool false] 24)).grown hg4 (fun e => hne (by cases e; rfl))); have HX4 := hid ((ceblk_new w3 (gateC N came2 T2) p3 c3).grown hg4 (fun e => by cases e; omega)); have HS4 := hid ((hs3.alloc (.cells #[i64 3, i64 0, i64 (-1), i64 N, .slice p3 came2.length c3, i64 T2, .bool false] 24)).grown hg4 (fun q hq e => by cases e; have := hl3 q hq; omega)); have hbw4 := ((hbw.trans (hb3.mono hsz)).alloc (by omega) (.cells #[i64 3, i64 0, i64 (-1), i64 N, .slice p3 came2.length c3, i64 T2, .bool false] 24)).grown hg4 (by simp; omega) (fun g e => by cases e; exact hwbm); obtain ⟨⟨y0, y1, y2, y3, y4, y5, y6⟩, yf, yl⟩ := HB4.out.facts; dsimp only [gateC] at y0 y1 y2 y3 y4 y5 y6; obtain ⟨⟨x0, x1, x2, x3, x4, x5, x6⟩, xf, xl⟩ := HX4.out.facts; dsimp only [gateC] at x0 x1 x2 x3 x4 x5 x6))
          have HR : Hid (CeBlk (((((((w4.setCell ⟨b, 0, none⟩ (i64 3)).setCell ⟨b, 1, none⟩ (i64 0)).setCell ⟨b, 2, none⟩ (i64 (-1))).setCell ⟨b, 3, none⟩ (i64 N)).setCell ⟨b, 4, none⟩ (.slice p3 came2.length c3)).setCell ⟨b, 5, none⟩ (i64 T2)).setCell ⟨b, 6, none⟩ (.bool false)) b (gateC N came2 T2) p3 c3 ∧ SlAt (((((((w4.setCell ⟨b, 0, none⟩ (i64 3)).setCell ⟨b, 1, none⟩ (i64 0)).setCell ⟨b, 2, none⟩ (i64 (-1))).setCell ⟨b, 3, none⟩ (i64 N)).setCell ⟨b, 4, none⟩ (.slice p3 came2.length c3)).setCell ⟨b, 5, none⟩ (i64 T2)).setCell ⟨b, 6, none⟩ (.bool false)) p3 c3 came2 ∧ MapIs (Value.int .i64) (Value.int .i64) (((((((w4.setCell ⟨b, 0, none⟩ (i64 3)).setCell ⟨b, 1, none⟩ (i64 0)).setCell ⟨b, 2, none⟩ (i64 (-1))).setCell ⟨b, 3, none⟩ (i64 N)).setCell ⟨b, 4, none⟩ (.slice p3 came2.length c3)).setCell ⟨b, 5, none⟩ (i64 T2)).setCell ⟨b, 6, none⟩ (.bool false)) bm l2 ∧ Below w.heap.size w (((((((w4.setCell ⟨b, 0, none⟩ (i64 3)).setCell ⟨b, 1, none⟩ (i64 0)).setCell ⟨b, 2, none⟩ (i64 (-1))).setCell ⟨b, 3, none⟩ (i64 N)).setCell ⟨b, 4, none⟩ (.slice p3 came2.length c3)).setCell ⟨b, 5, none⟩ (i64 T2)).setCell ⟨b, 6, none⟩ (.bool false))) :=
            ⟨ceblk_store HB4.out (gateC N came2 T2) p3 c3, slat_store HS4.out b _ _ _ _ _ _ _ (fun q hq => by have := hl3 q hq; omega), by rw [HL2.out]; exact map_store HM4.out b hne _ _ _ _ _ _ _, below_store hbw4 b hwb _ _ _ _ _ _ _⟩
          have HLOC2 : Hid (came2 = [] ∨ ∀ q, p3 = some q → q.block ≠ bm) := .inr fun q hq => by have := hl3 q hq; omega
          clear HB3 hb3 hm3 hm4 hg4 HB4 HX4 HM4 HS4 hbw4 hl3 hs3
          go_loopw [21, 103] (fun s i wx => ∃ j : Nat, j ≤ N ∧ i = .int .i64 j ∧ s = .int .i64 (cntP l2 T2 j : Nat) ∧ CeBlk wx b (gateC N came2 T2) p3 c3 ∧ SlAt wx p3 c3 came2 ∧ MapIs (Value.int .i64) (Value.int .i64) wx bm l2 ∧ Below w.heap.size w wx) (fun _ i _ => N - (intOf i).toNat)
          case atStart => exact ⟨0, Nat.zero_le _, rfl, rfl, HR.out⟩
          case round =>
            clear HR
            obtain ⟨j, hj, rfl, rfl, hblk5, hs5, hm5, hbw5⟩ := hrel
            have HB5 := hid hblk5
            obtain ⟨⟨z0, z1, z2, z3, z4, z5, z6⟩, zf, zl⟩ := hblk5.facts
            dsimp only [gateC] at z0 z1 z2 z3 z4 z5 z6
            clear hblk5
            have HCS : Hid (∀ X, X = cntP l2 T2 j → cntP l2 T2 (j + 1) = X + if alook l2 (j : Int) = some T2 then 1 else 0) := fun X hX => by rw [hX]; rfl
            have HCL := hid (cntP_le l2 T2 j)
            by_cases hjl : j < N
            · cases hl5 : alook l2 (j : Int) with
              | none =>
                rw [hl5] at HCS
                obtain ⟨X, hX⟩ : ∃ X, X = cntP l2 T2 j := ⟨_, rfl⟩
                rw [← hX]
                have HX := hid (HCS.out X hX)
                clear hX HCS
                go_wp2_with ((with_reducible show wpList _ _ _ (⟨some 109, _, _, _, _, _⟩ :: _) _ _); go_loud (refine wpList_maplook K3 Try.underlying47 rfl _ _ true rfl (.int .i64 0) (zero2 _) _ _ rfl hm5 (j : Int) rfl ?_); simp only [hl5, Option.map_none, Option.getD_none, Option.isSome_none, if_true])
                go_roundw
                case rel => exact ⟨j + 1, by omega, by go_num, by rw [HX.out]; rfl, HB5.out, hs5, hm5, hbw5⟩
                case measure => simp [intOf]; omega
              | some v =>
                rw [hl5] at HCS
                obtain ⟨X, hX⟩ : ∃ X, X = cntP l2 T2 j := ⟨_, rfl⟩
                have hXl : X ≤ 8 := by have := HCL.out; omega
                rw [← hX]
                have HX := hid (HCS.out X hX)
                clear hX HCS
                by_cases hvT : v = T2
                · have e1 : (v == T2) = true := by simpa using hvT
                  have HX : Hid (cntP l2 T2 (j + 1) = X + 1) := by rw [Hid, HX.out, if_pos (by rw [hvT])]
                  clear hvT
                  go_wp2_with ((with_reducible show wpList _ _ _ (⟨some 109, _, _, _, _, _⟩ :: _) _ _); go_loud (refine wpList_maplook K3 Try.underlying47 rfl _ _ true rfl (.int .i64 0) (zero2 _) _ _ rfl hm5 (j : Int) rfl ?_); simp only [hl5, Option.map_some, Option.getD_some, Option.isSome_some, if_true])
                  go_roundw
                  case rel => exact ⟨j + 1, by omega, by go_num, by rw [HX.out]; go_num, HB5.out, hs5, hm5, hbw5⟩
                  case measure => simp [intOf]; omega
                · have e1 : (v == T2) = false := by simpa using hvT
                  have HX : Hid (cntP l2 T2 (j + 1) = X) := by rw [Hid, HX.out, if_neg (by simpa using hvT)]; rfl
                  clear hvT
                  go_wp2_with ((with_reducible show wpList _ _ _ (⟨some 109, _, _, _, _, _⟩ :: _) _ _); go_loud (refine wpList_maplook K3 Try.underlying47 rfl _ _ true rfl (.int .i64 0) (zero2 _) _ _ rfl hm5 (j : Int) rfl ?_); simp only [hl5, Option.map_some, Option.getD_some, Option.isSome_some, if_true])
                  go_roundw
                  case rel => exact ⟨j + 1, by omega, by go_num, by rw [HX.out], HB5.out, hs5, hm5, hbw5⟩
                  case measure => simp [intOf]; omega
            · have hjx : j = N := by omega
              subst hjx
              rw [HG2.out.1.count]
              have hlk' := hid hlk
              have e1 : ((came2.length : Int) != (came2.length : Int)) = false := by simp
              clear HCS HCL
              go_wp2
              go_roundw
              case rel => exact ⟨k + 1, came2, T2, l2, p3, c3, by omega, by go_num, HG2.out.2.1, by have := HG2.out.2.2; omega, HG2.out.1, HOK2.out, HLOC2.out, HB5.out, hs5, hm5, hbw5⟩
              case measure => simp [intOf]; omega
      · have hkx : k = ds.length := by omega
        subst hkx
        go_wp2
        go_ret
        exact ⟨ret_bool (by simp), hbw⟩
  · have hmm := @run_makeMap Try.prog
    go_enter Try.func6, Try.ntmps6
    go_wp2_with (first
      | (go_at_call 11; refine (HLV.out _).mono ?_; rintro e w1 ⟨rfl, hb1⟩)
      | (go_at_call 16; (try rw [hN]); refine (HM.out _).mono ?_; rintro e w2 ⟨p2, c2, rfl, hs2, hb2⟩; have hbw2 := hb1.trans (hb2.mono hb1.size)))
    obtain ⟨b, hb⟩ : ∃ b, b = w2.heap.size := ⟨_, rfl⟩
    obtain ⟨bm, hbm⟩ : ∃ bm, bm = w2.heap.size + 1 := ⟨_, rfl⟩
    have hwb : w.heap.size ≤ b := by rw [hb]; exact hbw2.size
    have hwbm : w.heap.size ≤ bm := by omega
    have hne : bm ≠ b := by omega
    have HST : Hid (CeBlk ((w2.alloc (.cells #[i64 3, i64 0, i64 (-1), i64 N, .slice p2 0 c2, i64 0, .bool false] 24)).alloc (.map #[] 0)) b (gateC N [] 0) p2 c2 ∧ SlAt ((w2.alloc (.cells #[i64 3, i64 0, i64 (-1), i64 N, .slice p2 0 c2, i64 0, .bool false] 24)).alloc (.map #[] 0)) p2 c2 [] ∧ MapIs (Value.int .i64) (Value.int .i64) ((w2.alloc (.cells #[i64 3, i64 0, i64 (-1), i64 N, .slice p2 0 c2, i64 0, .bool false] 24)).alloc (.map #[] 0)) bm ([] : List (Int × Int)) ∧ Below w.heap.size w ((w2.alloc (.cells #[i64 3, i64 0, i64 (-1), i64 N, .slice p2 0 c2, i64 0, .bool false] 24)).alloc (.map #[] 0))) := by
      rw [hb, hbm]
      have hmm := MapIs.made (κ := Int) (β := Int) (Value.int .i64) (Value.int .i64) (w2.alloc (.cells #[i64 3, i64 0, i64 (-1), i64 N, .slice p2 0 c2, i64 0, .bool false] 24))
      rw [World.size_alloc] at hmm
      exact ⟨(ceblk_new w2 (gateC N [] 0) p2 c2).alloc _, (hs2.alloc _).alloc _, hmm, (hbw2.alloc hbw2.size _).alloc (by have := hbw2.size; simp; omega) _⟩
    rw [← hbm, ← hb]
    clear hmm hb hbm hs2 hb1 hb2 hbw2
    go_loopw [45] (fun i wr => ∃ (k : Nat) (came : List Int) (T : Int) (l : List (Int × Int)) (p' : Option Addr) (c' : Nat), k ≤ 200 ∧ i = .int .i64 k ∧ 0 ≤ T ∧ T ≤ k ∧ GInv N T came l ∧ okP (gateC N came T) = true ∧ (came = [] ∨ ∀ q, p' = some q → q.block ≠ bm) ∧ CeBlk wr b (gateC N came T) p' c' ∧ SlAt wr p' c' came ∧ MapIs (Value.int .i64) (Value.int .i64) wr bm l ∧ Below w.heap.size w wr) (fun i _ => 200 - (intOf i).toNat)
    case atStart => exact ⟨0, [], 0, [], p2, c2, Nat.zero_le _, rfl, by omega, by omega, HG0.out, HOK0.out, .inl rfl, HST.out.1, HST.out.2.1, HST.out.2.2.1, HST.out.2.2.2⟩
    case round =>
      clear HST
      obtain ⟨k, came, T, l, p', c', hk, rfl, hT0, hTk, hgi, hok, hloc, hblk, hs, hmap, hbw⟩ := hrel
      have HB := hid hblk
      have HGI := hid hgi
      have HOK := hid hok
      have HLOC := hid hloc
      have hcl : came.length < N := by have := gate_len hok; omega
      obtain ⟨⟨k0, k1, k2, k3, k4, k5, k6⟩, kf, kl⟩ := hblk.facts
      dsimp only [gateC] at k0 k1 k2 k3 k4 k5 k6
      clear hblk hgi hok hloc
      have hml := hmap.lt
      have hsz := hbw.size
      by_cases hlt : k < 200
      · obtain ⟨b1, o1, rfl, hb1, hz1⟩ := hrow.at (by simp; omega)
        clear hz1
        have c1 := (hrow.below hbw).cell k (by simp; omega)
        simp only [List.getElem_map] at c1
        have hdk := hds _ (List.getElem_mem (show k < ds.length by omega))
        obtain ⟨ob, hob⟩ : ∃ ob, ob = ds[k]'(by omega) := ⟨_, rfl⟩
        rw [← hob] at c1 hdk
        clear hob
        obtain ⟨hd0, hd1⟩ := hdk
        obtain ⟨q, hq⟩ : ∃ q : Nat, ob.tmod (N : Int) = (q : Int) := ⟨(ob.tmod (N : Int)).toNat, by rw [Int.tmod_eq_emod_of_nonneg (by omega)]; have := Int.emod_nonneg ob (show (N : Int) ≠ 0 by omega); omega⟩
        have hq2 : ob % (N : Int) = (q : Int) := by rw [← hq, Int.tmod_eq_emod_of_nonneg (by omega)]
        have hqN : q < N := by rw [Int.tmod_eq_emod_of_nonneg (by omega)] at hq; have := Int.emod_lt_of_pos ob (show (0 : Int) < N by omega); omega
        have HW : Hid (isW (q : Int) = true) := by simp [Hid, isW]; omega
        cases hlk : alook l (q : Int) with
        | some t =>
          have htT := HGI.out.told _ _ hlk
          have HP := hid (gate_pass HOK.out q HW.out t)
          by_cases hTt : T ≤ t
          · have HO1 := hid (HO.out came T q ⟨6, 0, t, 0⟩ (gateC N came T) 0 231 (HP.out.trans (if_pos hTt)) hcl)
            dsimp only [gateC, Ce.val] at HO1
            obtain rfl : T = t := by omega
            clear HP hTt htT
            go_wp2_with (first
              | ((with_reducible show wpList _ _ _ (⟨some 56, _, _, _, _, _⟩ :: _) _ _); go_loud (refine wpList_maplook K3 Try.underlying47 rfl _ _ true rfl (.int .i64 0) (zero2 _) _ _ rfl hmap (q : Int) rfl ?_); simp only [hlk, Option.map_some, Option.getD_some, Option.isSome_some, if_true])
              | (go_at_call 14; refine (HO1.out _ _ _ hs).mono ?_; rintro e w3 ⟨p3, c3, rfl, hs3, hl3, hb3⟩; have HB3 := hid (HB.out.below hb3); have hz3 := hb3.size; obtain ⟨⟨y0, y1, y2, y3, y4, y5, y6⟩, yf, yl⟩ := HB3.out.facts; dsimp only [gateC] at y0 y1 y2 y3 y4 y5 y6))
            go_roundw
            case rel =>
              exact ⟨k + 1, came, T, l, p', c', by omega, by go_num, hT0, by omega, HGI.out, HOK.out, HLOC.out, HB3.out.alloc _, (hs.below hb3).alloc _, (hmap.below hb3 hml).alloc _, (hbw.trans (hb3.mono hsz)).alloc (by omega) _⟩
            case measure => simp [intOf]; omega
          · have HO1 := hid (HO.out came T q ⟨6, 0, t, 0⟩ (gateC N came T) T 0 (HP.out.trans (if_neg hTt)) hcl)
            dsimp only [gateC, Ce.val] at HO1
            have hTt2 : t < T := by omega
            have HG2 := hid (HGI.out.del _ hlk hTt2)
            clear HP hTt htT
            go_wp2_with (first
              | ((with_reducible show wpList _ _ _ (⟨some 56, _, _, _, _, _⟩ :: _) _ _); go_loud (refine wpList_maplook K3 Try.underlying47 rfl _ _ true rfl (.int .i64 0) (zero2 _) _ _ rfl hmap (q : Int) rfl ?_); simp only [hlk, Option.map_some, Option.getD_some, Option.isSome_some, if_true])
              | (go_at_call 14; refine (HO1.out _ _ _ hs).mono ?_; rintro e w3 ⟨p3, c3, rfl, hs3, hl3, hb3⟩; have HB3 := hid (HB.out.below hb3); have hz3 := hb3.size; have hm3 := (hmap.below hb3 hml).alloc (.cells #[i64 3, i64 0, i64 (-1), i64 N, .slice p3 came.length c3, i64 T, .bool false] 24); obtain ⟨⟨y0, y1, y2, y3, y4, y5, y6⟩, yf, yl⟩ := HB3.out.facts; dsimp only [gateC] at y0 y1 y2 y3 y4 y5 y6)
              | ((with_reducible show wpList _ _ _ (⟨none, .call _, _, _, _, _⟩ :: _) _ _); go_loud (refine wpList_mapdel K3 Try.underlying47 rfl _ _ rfl _ _ rfl hm3 (q : Int) rfl ?_); intro w4 hm4 hg4; have HB4 := hid ((HB3.out.alloc _).grown hg4 (fun e => hne (by cases e; rfl))); have hs4 := slat_map ((hs.below hb3).alloc _) hg4 HLOC.out; have hbw4 := ((hbw.trans (hb3.mono hsz)).alloc (by omega) _).grown hg4 (by simp; omega) (fun g e => by cases e; exact hwbm)))
            go_roundw
            case rel => exact ⟨k + 1, came, T, adel l q, p', c', by omega, by go_num, hT0, by omega, HG2.out, HOK.out, HLOC.out, HB4.out, hs4, hm4, hbw4⟩
            case measure => simp [intOf]; omega
        | none =>
          have hnm : (q : Int) ∉ came := fun hm => by
            have := (HGI.out.here q (by omega) (by omega)).2 hm
            rw [hlk] at this
            cases this
          have HP := hid (gate_arrive HOK.out q HW.out hnm (by omega))
          have HEO := hid (oneP_ok (gateC N came T) q ⟨5, 0, 0, 0⟩)
          obtain ⟨came2, T2, hr, HG2⟩ : ∃ came2 T2, oneP (gateC N came T) q ⟨5, 0, 0, 0⟩ = (gateC N came2 T2, T, 0) ∧ Hid (GInv N T2 came2 (aset l q T) ∧ 0 ≤ T2 ∧ T2 ≤ k + 1) := by
            by_cases hfull : (came.length : Int) + 1 = N
            · exact ⟨[], T + 1, HP.out.trans (if_pos hfull), HGI.out.full q, by omega, by omega⟩
            · exact ⟨came ++ [(q : Int)], T, HP.out.trans (if_neg hfull), HGI.out.more q (by omega) (by omega) hlk, by omega, by omega⟩
          have HO1 := hid (HO.out came T q ⟨5, 0, 0, 0⟩ (gateC N came2 T2) T 0 hr hcl)
          have HOK2 : Hid (okP (gateC N came2 T2) = true) := by have := HEO.out; rw [hr] at this; exact this rfl
          have hcl2 : came2.length < N := by have := gate_len HOK2.out; omega
          dsimp only [gateC, Ce.val] at HO1
          clear HP HEO hr hnm
          obtain ⟨l2, hl2⟩ : ∃ l2, l2 = aset l q T := ⟨_, rfl⟩
          rw [← hl2] at HG2
          have HL2 := hid hl2
          clear hl2
          go_wp2_with (first
            | ((with_reducible show wpList _ _ _ (⟨some 56, _, _, _, _, _⟩ :: _) _ _); go_loud (refine wpList_maplook K3 Try.underlying47 rfl _ _ true rfl (.int .i64 0) (zero2 _) _ _ rfl hmap (q : Int) rfl ?_); simp only [hlk, Option.map_none, Option.getD_none, Option.isSome_none, if_true])
            | (go_at_call 14; refine (HO1.out _ _ _ hs).mono ?_; rintro e w3 ⟨p3, c3, rfl, hs3, hl3, hb3⟩; have HB3 := hid (HB.out.below hb3); have hz3 := hb3.size; have hm3 := (hmap.below hb3 hml).alloc (.cells #[i64 3, i64 0, i64 (-1), i64 N, .slice p3 came2.length c3, i64 T2, .bool false] 24))
            | ((with_reducible show wpList _ _ _ (⟨none, .mapUpdate _ _ _ _, _, _, _, _⟩ :: _) _ _); go_loud (refine wpList_mapset K3 Try.underlying47 rfl _ _ _ (.inl rfl) _ _ rfl hm3 (q : Int) rfl T rfl ?_); intro w4 hm4 hg4; have HM4 := hid hm4; have HB4 := hid ((HB3.out.alloc (.cells #[i64 3, i64 0, i64 (-1), i64 N, .slice p3 came2.length c3, i64 T2, .bool false] 24)).grown hg4 (fun e => hne (by cases e; rfl))); have HX4 := hid ((ceblk_new w3 (gateC N came2 T2) p3 c3).grown hg4 (fun e => by cases e; omega)); have HS4 := hid ((hs3.alloc (.cells #[i64 3, i64 0, i64 (-1), i64 N, .slice p3 came2.length c3, i64 T2, .bool false] 24)).grown hg4 (fun q hq e => by cases e; have := hl3 q hq; omega)); have hbw4 := ((hbw.trans (hb3.mono hsz)).alloc (by omega) (.cells #[i64 3, i64 0, i64 (-1), i64 N, .slice p3 came2.length c3, i64 T2, .bool false] 24)).grown hg4 (by simp; omega) (fun g e => by cases e; exact hwbm); obtain ⟨⟨y0, y1, y2, y3, y4, y5, y6⟩, yf, yl⟩ := HB4.out.facts; dsimp only [gateC] at y0 y1 y2 y3 y4 y5 y6; obtain ⟨⟨x0, x1, x2, x3, x4, x5, x6⟩, xf, xl⟩ := HX4.out.facts; dsimp only [gateC] at x0 x1 x2 x3 x4 x5 x6))
          have HR : Hid (CeBlk (((((((w4.setCell ⟨b, 0, none⟩ (i64 3)).setCell ⟨b, 1, none⟩ (i64 0)).setCell ⟨b, 2, none⟩ (i64 (-1))).setCell ⟨b, 3, none⟩ (i64 N)).setCell ⟨b, 4, none⟩ (.slice p3 came2.length c3)).setCell ⟨b, 5, none⟩ (i64 T2)).setCell ⟨b, 6, none⟩ (.bool false)) b (gateC N came2 T2) p3 c3 ∧ SlAt (((((((w4.setCell ⟨b, 0, none⟩ (i64 3)).setCell ⟨b, 1, none⟩ (i64 0)).setCell ⟨b, 2, none⟩ (i64 (-1))).setCell ⟨b, 3, none⟩ (i64 N)).setCell ⟨b, 4, none⟩ (.slice p3 came2.length c3)).setCell ⟨b, 5, none⟩ (i64 T2)).setCell ⟨b, 6, none⟩ (.bool false)) p3 c3 came2 ∧ MapIs (Value.int .i64) (Value.int .i64) (((((((w4.setCell ⟨b, 0, none⟩ (i64 3)).setCell ⟨b, 1, none⟩ (i64 0)).setCell ⟨b, 2, none⟩ (i64 (-1))).setCell ⟨b, 3, none⟩ (i64 N)).setCell ⟨b, 4, none⟩ (.slice p3 came2.length c3)).setCell ⟨b, 5, none⟩ (i64 T2)).setCell ⟨b, 6, none⟩ (.bool false)) bm l2 ∧ Below w.heap.size w (((((((w4.setCell ⟨b, 0, none⟩ (i64 3)).setCell ⟨b, 1, none⟩ (i64 0)).setCell ⟨b, 2, none⟩ (i64 (-1))).setCell ⟨b, 3, none⟩ (i64 N)).setCell ⟨b, 4, none⟩ (.slice p3 came2.length c3)).setCell ⟨b, 5, none⟩ (i64 T2)).setCell ⟨b, 6, none⟩ (.bool false))) :=
            ⟨ceblk_store HB4.out (gateC N came2 T2) p3 c3, slat_store HS4.out b _ _ _ _ _ _ _ (fun q hq => by have := hl3 q hq; omega), by rw [HL2.out]; exact map_store HM4.out b hne _ _ _ _ _ _ _, below_store hbw4 b hwb _ _ _ _ _ _ _⟩
          have HLOC2 : Hid (came2 = [] ∨ ∀ q, p3 = some q → q.block ≠ bm) := .inr fun q hq => by have := hl3 q hq; omega
          clear HB3 hb3 hm3 hm4 hg4 HB4 HX4 HM4 HS4 hbw4 hl3 hs3
          go_loopw [21, 103] (fun s i wx => ∃ j : Nat, j ≤ N ∧ i = .int .i64 j ∧ s = .int .i64 (cntP l2 T2 j : Nat) ∧ CeBlk wx b (gateC N came2 T2) p3 c3 ∧ SlAt wx p3 c3 came2 ∧ MapIs (Value.int .i64) (Value.int .i64) wx bm l2 ∧ Below w.heap.size w wx) (fun _ i _ => N - (intOf i).toNat)
          case atStart => exact ⟨0, Nat.zero_le _, rfl, rfl, HR.out⟩
          case round =>
            clear HR
            obtain ⟨j, hj, rfl, rfl, hblk5, hs5, hm5, hbw5⟩ := hrel
            have HB5 := hid hblk5
            obtain ⟨⟨z0, z1, z2, z3, z4, z5, z6⟩, zf, zl⟩ := hblk5.facts
            dsimp only [gateC] at z0 z1 z2 z3 z4 z5 z6
            clear hblk5
            have HCS : Hid (∀ X, X = cntP l2 T2 j → cntP l2 T2 (j + 1) = X + if alook l2 (j : Int) = some T2 then 1 else 0) := fun X hX => by rw [hX]; rfl
            have HCL := hid (cntP_le l2 T2 j)
            by_cases hjl : j < N
            · cases hl5 : alook l2 (j : Int) with
              | none =>
                rw [hl5] at HCS
                obtain ⟨X, hX⟩ : ∃ X, X = cntP l2 T2 j := ⟨_, rfl⟩
                rw [← hX]
                have HX := hid (HCS.out X hX)
                clear hX HCS
                go_wp2_with ((with_reducible show wpList _ _ _ (⟨some 109, _, _, _, _, _⟩ :: _) _ _); go_loud (refine wpList_maplook K3 Try.underlying47 rfl _ _ true rfl (.int .i64 0) (zero2 _) _ _ rfl hm5 (j : Int) rfl ?_); simp only [hl5, Option.map_none, Option.getD_none, Option.isSome_none, if_true])
                go_roundw
                case rel => exact ⟨j + 1, by omega, by go_num, by rw [HX.out]; rfl, HB5.out, hs5, hm5, hbw5⟩
                case measure => simp [intOf]; omega
              | some v =>
                rw [hl5] at HCS
                obtain ⟨X, hX⟩ : ∃ X, X = cntP l2 T2 j := ⟨_, rfl⟩
                have hXl : X ≤ 8 := by have := HCL.out; omega
                rw [← hX]
                have HX := hid (HCS.out X hX)
                clear hX HCS
                by_cases hvT : v = T2
                · have e1 : (v == T2) = true := by simpa using hvT
                  have HX : Hid (cntP l2 T2 (j + 1) = X + 1) := by rw [Hid, HX.out, if_pos (by rw [hvT])]
                  clear hvT
                  go_wp2_with ((with_reducible show wpList _ _ _ (⟨some 109, _, _, _, _, _⟩ :: _) _ _); go_loud (refine wpList_maplook K3 Try.underlying47 rfl _ _ true rfl (.int .i64 0) (zero2 _) _ _ rfl hm5 (j : Int) rfl ?_); simp only [hl5, Option.map_some, Option.getD_some, Option.isSome_some, if_true])
                  go_roundw
                  case rel => exact ⟨j + 1, by omega, by go_num, by rw [HX.out]; go_num, HB5.out, hs5, hm5, hbw5⟩
                  case measure => simp [intOf]; omega
                · have e1 : (v == T2) = false := by simpa using hvT
                  have HX : Hid (cntP l2 T2 (j + 1) = X) := by rw [Hid, HX.out, if_neg (by simpa using hvT)]; rfl
                  clear hvT
                  go_wp2_with ((with_reducible show wpList _ _ _ (⟨some 109, _, _, _, _, _⟩ :: _) _ _); go_loud (refine wpList_maplook K3 Try.underlying47 rfl _ _ true rfl (.int .i64 0) (zero2 _) _ _ rfl hm5 (j : Int) rfl ?_); simp only [hl5, Option.map_some, Option.getD_some, Option.isSome_some, if_true])
                  go_roundw
                  case rel => exact ⟨j + 1, by omega, by go_num, by rw [HX.out], HB5.out, hs5, hm5, hbw5⟩
                  case measure => simp [intOf]; omega
            · have hjx : j = N := by omega
              subst hjx
              rw [HG2.out.1.count]
              have hlk' := hid hlk
              have e1 : ((came2.length : Int) != (came2.length : Int)) = false := by simp
              clear HCS HCL
              go_wp2
              go_roundw
              case rel => exact ⟨k + 1, came2, T2, l2, p3, c3, by omega, by go_num, HG2.out.2.1, by have := HG2.out.2.2; omega, HG2.out.1, HOK2.out, HLOC2.out, HB5.out, hs5, hm5, hbw5⟩
              case measure => simp [intOf]; omega
      · have hkx : k = 200 := by omega
        subst hkx
        go_wp2
        go_ret
        exact ⟨ret_bool (by simp), hbw⟩

theorem gate_walk (w : World) (tn : Int) (ht : (Lit.int .u8 tn).wf = true) (o : Option Addr) (c : Nat) (ds : List Int)
    (ok : ds.length ≤ c ∧ c ≤ maxLen ∧ (o = none → c = 0) ∧ Row w o (ds.map (Value.int .u8)) ∧ (∀ n ∈ ds, (Lit.int .u8 n).wf = true) ∧ c * Try.prog.bytesOf 5 ≤ 140737488351232) :
    Calls Try.prog 6 #[.int .u8 tn, .slice o ds.length c] w fun e w' => e = .returned (.bool true) ∧ Below w.heap.size w w' := by
  obtain ⟨h1, h2, _, h4, h5, _⟩ := ok
  obtain ⟨t0, t1⟩ := wf_u8 ht
  by_cases hl : ds.length ≤ 200
  · exact gate_core w tn t0 t1 o c ds.length ds (fun v hv => wf_u8 (h5 v hv)) h1 h2 h4 (.inl ⟨rfl, hl⟩)
  · exact gate_core w tn t0 t1 o c 200 ds (fun v hv => wf_u8 (h5 v hv)) h1 h2 h4 (.inr ⟨rfl, by omega⟩)
end Go.Proofs.Ytfpgdaefdpjcmaa
