/-
  The walk of CellsOne.
-/
import Derived.Test.YtfpgdaefdpjcmaaROne
import Derived.Test.YtfpgdaefdpjcmaaStays
import Derived.Deep.RegionWith
import Derived.BigRegion
import Derived.Deep.RegionHeld3
import Derived.Deep.DeepCutAuto
namespace Go.Proofs.Ytfpgdaefdpjcmaa
open Go.RowKit

structure UseR where
  z : CeR
  y : CeR
  wk : Int
  a : Ac
def UseR.cells (u : UseR) : List Value := u.z.cells ++ u.y.cells ++ [i64 u.wk] ++ u.a.cells

theorem blk0 (w : World) (A B C : Obj) : (((w.alloc A).alloc B).alloc C).heap[w.heap.size]? = some A := (Below.heap_alloc _ _ _ (by simp; omega)).trans ((Below.heap_alloc _ _ _ (by simp)).trans (heap_alloc_new w A))
theorem blk1 (w : World) (A B C : Obj) : (((w.alloc A).alloc B).alloc C).heap[w.heap.size + 1]? = some B := by
  have := heap_alloc_new (w.alloc A) B
  rw [World.size_alloc] at this
  exact (Below.heap_alloc _ _ _ (by simp)).trans this
theorem blk2 (w : World) (A B C : Obj) : (((w.alloc A).alloc B).alloc C).heap[w.heap.size + 1 + 1]? = some C := by
  have := heap_alloc_new ((w.alloc A).alloc B) C
  rw [World.size_alloc, World.size_alloc] at this
  exact this
theorem AcBlk.drew {w : World} {b : Nat} {a : Ac} (h : AcBlk w b a) : AcBlk w.drew b a := h

theorem below_more {B : Nat} {W w1 w2 : World} (h2 : Below w1.heap.size w1 w2) (h1 : Below B W w1) (hB : B ≤ W.heap.size) : Below B W w2 := h1.trans (h2.mono (Nat.le_trans hB h1.size))
theorem ce_all {wd : World} {b : Nat} {x : Ce} {p : Option Addr} {c : Nat} (h : CeBlk wd b x p c) :
    (∀ w', Below wd.heap.size wd w' → w'.cell? ⟨b, 0, none⟩ = some (i64 x.kind)) ∧ (∀ w', Below wd.heap.size wd w' → w'.cell? ⟨b, 1, none⟩ = some (i64 x.n)) ∧ (∀ w', Below wd.heap.size wd w' → w'.cell? ⟨b, 2, none⟩ = some (i64 x.owner)) ∧ (∀ w', Below wd.heap.size wd w' → w'.cell? ⟨b, 3, none⟩ = some (i64 x.need)) ∧
    (∀ w', Below wd.heap.size wd w' → w'.cell? ⟨b, 4, none⟩ = some (.slice p x.came.length c)) ∧ (∀ w', Below wd.heap.size wd w' → w'.cell? ⟨b, 5, none⟩ = some (i64 x.turns)) ∧ (∀ w', Below wd.heap.size wd w' → w'.cell? ⟨b, 6, none⟩ = some (.bool x.there)) :=
  ⟨fun w' hb => (h.below hb).facts.1.1, fun w' hb => (h.below hb).facts.1.2.1, fun w' hb => (h.below hb).facts.1.2.2.1, fun w' hb => (h.below hb).facts.1.2.2.2.1, fun w' hb => (h.below hb).facts.1.2.2.2.2.1, fun w' hb => (h.below hb).facts.1.2.2.2.2.2.1, fun w' hb => (h.below hb).facts.1.2.2.2.2.2.2⟩

/-- Behind the four values of the use. -/
def OneCut (B : Nat) (w : World) (x y : Ce) (p q : Option Addr) (c d : Nat) (wk : Int) (a : Ac) (s3 s4 s5 s6 : Value) (wx : World) : Prop :=
  s5 = i64 wk ∧ ∃ bC bO bA, s3 = .pointer (some ⟨bC, 0, none⟩) ∧ s4 = .pointer (some ⟨bO, 0, none⟩) ∧ s6 = .pointer (some ⟨bA, 0, none⟩) ∧
    CeBlk wx bC x p c ∧ CeBlk wx bO y q d ∧ AcBlk wx bA a ∧ Below B w wx

set_option maxRecDepth 20000 in
set_option maxHeartbeats 4000000 in
theorem one_walk0 (w : World) (u : UseR) (hz : u.z.ok w) (hy : u.y.ok w) :
    Calls Try.prog 3 #[.agg u.cells.toArray] w fun e w' => e = .returned (.bool true) ∧ Below w.heap.size w w' := by
  obtain ⟨⟨⟨kind, n, owner, need, came, turns, there⟩, p, c⟩, ⟨⟨kind', n', owner', need', came', turns', there'⟩, q, d⟩, wk, ⟨ak, ac, ao, an⟩⟩ := u
  obtain ⟨_, hsx, hmx⟩ := hz
  obtain ⟨_, hsy, hmy⟩ := hy
  dsimp only at hsx hmx hsy hmy
  have HLV := hid (live_any)
  show Calls Try.prog 3 #[.agg #[i64 kind, i64 n, i64 owner, i64 need, .slice p came.length c, i64 turns, .bool there, i64 kind', i64 n', i64 owner', i64 need', .slice q came'.length d, i64 turns', .bool there', i64 wk, i64 ak, i64 ac, i64 ao, i64 an]] w _
  go_enter Try.func3, Try.ntmps3
  go_upto_region 3 with (go_at_call 11; refine (HLV.out _).mono ?_; rintro e w1 ⟨rfl, hb1⟩; have HB : Hid (w1.heap[w.heap.size]? = some (.cells #[i64 kind, i64 n, i64 owner, i64 need, .slice p came.length c, i64 turns, .bool there, i64 kind', i64 n', i64 owner', i64 need', .slice q came'.length d, i64 turns', .bool there', i64 wk, i64 ak, i64 ac, i64 ao, i64 an] 28 (0, 0))) := (hb1.block _ (by simp)).trans (heap_alloc_new w _))
  have hz1 := hb1.size
  simp only [World.size_alloc] at hz1
  have fu0 := cell_of_row w1 w.heap.size 0 _ _ _ HB.out; have fu1 := cell_of_row w1 w.heap.size 1 _ _ _ HB.out; have fu2 := cell_of_row w1 w.heap.size 2 _ _ _ HB.out; have fu3 := cell_of_row w1 w.heap.size 3 _ _ _ HB.out; have fu4 := cell_of_row w1 w.heap.size 4 _ _ _ HB.out; have fu5 := cell_of_row w1 w.heap.size 5 _ _ _ HB.out; have fu6 := cell_of_row w1 w.heap.size 6 _ _ _ HB.out; have fu7 := cell_of_row w1 w.heap.size 7 _ _ _ HB.out; have fu8 := cell_of_row w1 w.heap.size 8 _ _ _ HB.out; have fu9 := cell_of_row w1 w.heap.size 9 _ _ _ HB.out; have fu10 := cell_of_row w1 w.heap.size 10 _ _ _ HB.out; have fu11 := cell_of_row w1 w.heap.size 11 _ _ _ HB.out; have fu12 := cell_of_row w1 w.heap.size 12 _ _ _ HB.out; have fu13 := cell_of_row w1 w.heap.size 13 _ _ _ HB.out; have fu14 := cell_of_row w1 w.heap.size 14 _ _ _ HB.out; have fu15 := cell_of_row w1 w.heap.size 15 _ _ _ HB.out; have fu16 := cell_of_row w1 w.heap.size 16 _ _ _ HB.out; have fu17 := cell_of_row w1 w.heap.size 17 _ _ _ HB.out; have fu18 := cell_of_row w1 w.heap.size 18 _ _ _ HB.out
  simp only [List.getElem?_toArray, List.getElem?_cons_zero, List.getElem?_cons_succ] at fu0 fu1 fu2 fu3 fu4 fu5 fu6 fu7 fu8 fu9 fu10 fu11 fu12 fu13 fu14 fu15 fu16 fu17 fu18
  have hbw1 := ((Below.refl w.heap.size w).alloc (Nat.le_refl _) _).trans (hb1.mono (by simp))
  have hwz := hbw1.size
  clear hb1 HB
  have hul : w.heap.size < w1.heap.size := by omega
  obtain ⟨bu, hbu⟩ : ∃ bu, bu = w.heap.size := ⟨_, rfl⟩
  rw [← hbu] at fu0 fu1 fu2 fu3 fu4 fu5 fu6 fu7 fu8 fu9 fu10 fu11 fu12 fu13 fu14 fu15 fu16 fu17 fu18 hul
  rw [← hbu]
  have hul1 : bu < w1.heap.size + 1 := by omega
  have hul2 : bu < w1.heap.size + 1 + 1 := by omega
  have hne0 : bu ≠ w1.heap.size := by omega
  have hne1 : bu ≠ w1.heap.size + 1 := by omega
  have hne2 : bu ≠ w1.heap.size + 1 + 1 := by omega
  have HBU := hid hbu
  clear hbu
  go_cut [3, 4, 5, 6] (fun s3 s4 s5 s6 wx => OneCut w.heap.size w ⟨kind, n, owner, need, came, turns, there⟩ ⟨kind', n', owner', need', came', turns', there'⟩ p q c d wk ⟨ak, ac, ao, an⟩ s3 s4 s5 s6 wx)
  case first =>
    go_region
    all_goals (go_wp2_with fail; go_meet)
    all_goals (exact ⟨rfl, _, _, _, rfl, rfl, rfl, (by first | exact CeBlk.drew (blk0 _ _ _ _) | exact CeBlk.drew (blk1 _ _ _ _) | exact CeBlk.drew (blk2 _ _ _ _)), (by first | exact CeBlk.drew (blk0 _ _ _ _) | exact CeBlk.drew (blk1 _ _ _ _) | exact CeBlk.drew (blk2 _ _ _ _)), (by first | exact AcBlk.drew (blk0 _ _ _ _) | exact AcBlk.drew (blk1 _ _ _ _) | exact AcBlk.drew (blk2 _ _ _ _)), ((((hbw1.alloc hwz _).alloc (by simp; omega) _).alloc (by simp; omega) _)).drew⟩)
  case rest =>
    obtain ⟨rfl, bC, bO, bA, rfl, rfl, rfl, hC, hO, hA, hbw⟩ := hcut
    clear fu0 fu1 fu2 fu3 fu4 fu5 fu6 fu7 fu8 fu9 fu10 fu11 fu12 fu13 fu14 fu15 fu16 fu17 fu18 hul hul1 hul2 hne0 hne1 hne2 hbw1 HBU hwz hz1
    have HC1 := hid hC
    have HO1 := hid hO
    have HA1 := hid hA
    have hs1 := hsx.below (hbw)
    have ht1 := hsy.below (hbw)
    have hzw := hbw.size
    obtain ⟨⟨U0, U1, U2, U3, U4, U5, U6⟩, Uf, Ul⟩ := HC1.out.facts; dsimp only at U0 U1 U2 U3 U4 U5 U6
    obtain ⟨⟨Vv0, Vv1, Vv2, Vv3, Vv4, Vv5, Vv6⟩, Vvf, Vvl⟩ := HO1.out.facts; dsimp only at Vv0 Vv1 Vv2 Vv3 Vv4 Vv5 Vv6
    clear hC hO hA
    have HF := hid (fun w1 (b : Nat) (hr : Row w1 (some ⟨b, 0, none⟩) (ceRow [⟨⟨kind, n, owner, need, came, turns, there⟩, p, c⟩, ⟨⟨kind', n', owner', need', came', turns', there'⟩, q, d⟩])) => few_any (some ⟨b, 0, none⟩) 2 [⟨⟨kind, n, owner, need, came, turns, there⟩, p, c⟩, ⟨⟨kind', n', owner', need', came', turns', there'⟩, q, d⟩] w1 (by simp) (by decide) hr)
    simp only [List.length_cons, List.length_nil] at HF
    generalize fewP [⟨⟨kind, n, owner, need, came, turns, there⟩, p, c⟩, ⟨⟨kind', n', owner', need', came', turns', there'⟩, q, d⟩] = FB at HF
    have HCP := hid (fun w1 (h : SlAt w1 p c came) => rclone_any ⟨kind, n, owner, need, came, turns, there⟩ p c w1 hmx h)
    have HN := hid (fun w1 (h : SlAt w1 p c came) => one_any ⟨kind, n, owner, need, came, turns, there⟩ p c wk ⟨ak, ac, ao, an⟩ w1 h hmx)
    have HRN := hid (fun w1 (h : SlAt w1 p c came) => rone_any ⟨kind, n, owner, need, came, turns, there⟩ p c wk ⟨ak, ac, ao, an⟩ w1 h hmx)
    have HM := hid (make_any ak wk)
    have HRM := hid (rmake_any ak wk)
    generalize oneP ⟨kind, n, owner, need, came, turns, there⟩ wk ⟨ak, ac, ao, an⟩ = R at HN HRN
    generalize makeP ak wk = G at HM HRM
    obtain ⟨⟨kindX, nX, ownerX, needX, cameX, turnsX, thereX⟩, V, E⟩ := R
    obtain ⟨⟨kindM, nM, ownerM, needM, cameM, turnsM, thereM⟩, g⟩ := G
    unfold CeTellL Ce.val Ac.val at HN
    unfold CeTell Ce.val Ac.val at HRN
    unfold CeTell Ce.val at HM HRM
    unfold CopyTell Ce.val at HCP
    dsimp only [List.singleton_append, List.cons_append, List.nil_append] at HN HRN HM HRM HCP
    cases FB with
    | false =>
      go_wp2_with (go_at_call 12; refine (HF.out _ _ (row_new wc [i64 kind, i64 n, i64 owner, i64 need, .slice p came.length c, i64 turns, .bool there, i64 kind', i64 n', i64 owner', i64 need', .slice q came'.length d, i64 turns', .bool there'] _)).mono ?_; rintro e w2 ⟨rfl, hb2⟩)
      go_ret
      exact ⟨ret_bool rfl, (hbw.alloc hzw _).trans (hb2.mono (by simp; omega))⟩
    | true =>
      go_upto_region 11 with (first
        | (go_at_call 12; refine (HF.out _ _ (row_new wc [i64 kind, i64 n, i64 owner, i64 need, .slice p came.length c, i64 turns, .bool there, i64 kind', i64 n', i64 owner', i64 need', .slice q came'.length d, i64 turns', .bool there'] _)).mono ?_; rintro e w2 ⟨rfl, hb2⟩; have hz2 := hb2.size; simp only [World.size_alloc] at hz2; have hs2 := (hs1.alloc _).below hb2; have HC2 := hid ((HC1.out.alloc _).below hb2); have HO2 := hid ((HO1.out.alloc _).below hb2); have HA2 := hid ((HA1.out.alloc _).below hb2); have ht2 := (ht1.alloc _).below hb2; have hbw2 := (hbw.alloc hzw _).trans (hb2.mono (by simp; omega)); clear U0 U1 U2 U3 U4 U5 U6 Uf Ul Vv0 Vv1 Vv2 Vv3 Vv4 Vv5 Vv6 Vvf Vvl; obtain ⟨⟨U0, U1, U2, U3, U4, U5, U6⟩, Uf, Ul⟩ := HC2.out.facts; dsimp only at U0 U1 U2 U3 U4 U5 U6)
        | (go_at_call 13; refine (HCP.out _ hs2).mono ?_; rintro e w3 ⟨p7, c7, rfl, ho3, hb3⟩; have hs7 := own_slat ho3; have hz3 := hb3.size; have hs3 := (hs2.below hb3).alloc (.cells #[i64 kind, i64 n, i64 owner, i64 need, .slice p7 came.length c7, i64 turns, .bool there] 24); have HC3 := hid (HC2.out.below hb3); have HO3 := hid (HO2.out.below hb3); have HA3 := hid (HA2.out.below hb3); have ht3 := ht2.below hb3; have hbw3 := hbw2.trans (hb3.mono hbw2.size); have h7 := ceblk_new w3 ⟨kind, n, owner, need, came, turns, there⟩ p7 c7; clear U0 U1 U2 U3 U4 U5 U6 Uf Ul; obtain ⟨⟨U0, U1, U2, U3, U4, U5, U6⟩, Uf, Ul⟩ := HC3.out.facts; dsimp only at U0 U1 U2 U3 U4 U5 U6; obtain ⟨⟨Aa0, Aa1, Aa2, Aa3⟩, Aal⟩ := HA3.out.facts; dsimp only at Aa0 Aa1 Aa2 Aa3)
        | (go_at_call 14; refine (HN.out _ hs3).mono ?_; rintro e w4 ⟨p8, c8, rfl, hs8, hl8, hb4⟩; have hz4 := hb4.size; simp only [World.size_alloc] at hz4; have hs4 := (hs3.below hb4).alloc (.cells #[i64 kindX, i64 nX, i64 ownerX, i64 needX, .slice p8 cameX.length c8, i64 turnsX, .bool thereX] 24); have HC4 := hid ((HC3.out.alloc _).below hb4); have HO4 := hid ((HO3.out.alloc _).below hb4); have HA4 := hid ((HA3.out.alloc _).below hb4); have ht4 := (ht3.alloc _).below hb4; have hbw4 := (hbw3.alloc hbw3.size _).trans (hb4.mono (by have := hbw3.size; simp; omega)); have h74 := h7.below hb4; have hs74 := (hs7.alloc _).below hb4; have h8 := ceblk_new w4 ⟨kindX, nX, ownerX, needX, cameX, turnsX, thereX⟩ p8 c8; clear U0 U1 U2 U3 U4 U5 U6 Uf Ul Aa0 Aa1 Aa2 Aa3 Aal; obtain ⟨⟨U0, U1, U2, U3, U4, U5, U6⟩, Uf, Ul⟩ := HC4.out.facts; dsimp only at U0 U1 U2 U3 U4 U5 U6; obtain ⟨⟨Aa0, Aa1, Aa2, Aa3⟩, Aal⟩ := HA4.out.facts; dsimp only at Aa0 Aa1 Aa2 Aa3)
        | (go_at_call 15; refine (HRN.out _ hs4).mono ?_; rintro e w5 ⟨p11, c11, rfl, hs11, hb5⟩; have hz5 := hb5.size; simp only [World.size_alloc] at hz5; have hs5 := (hs4.below hb5); have HC5 := hid ((HC4.out.alloc _).below hb5); have HO5 := hid ((HO4.out.alloc _).below hb5); have HA5 := hid ((HA4.out.alloc _).below hb5); have ht5 := (ht4.alloc _).below hb5; have hbw5 := (hbw4.alloc hbw4.size _).trans (hb5.mono (by have := hbw4.size; simp; omega)); have h75 := (h74.alloc _).below hb5; have hs75 := (hs74.alloc _).below hb5; have h85 := h8.below hb5; have hs85 := (hs8.alloc _).below hb5; have h11 := ceblk_new w5 ⟨kindX, nX, ownerX, needX, cameX, turnsX, thereX⟩ p11 c11; clear U0 U1 U2 U3 U4 U5 U6 Uf Ul Aa0 Aa1 Aa2 Aa3 Aal; obtain ⟨⟨U0, U1, U2, U3, U4, U5, U6⟩, Uf, Ul⟩ := HC5.out.facts; dsimp only at U0 U1 U2 U3 U4 U5 U6; obtain ⟨⟨Aa0, Aa1, Aa2, Aa3⟩, Aal⟩ := HA5.out.facts; dsimp only at Aa0 Aa1 Aa2 Aa3)
        | (go_at_call 16; refine (HM.out _).mono ?_; rintro e w6 ⟨p14, c14, rfl, hs14, hb6⟩; have hz6 := hb6.size; simp only [World.size_alloc] at hz6; have hs6 := (hs5.alloc _).below hb6; have HC6 := hid ((HC5.out.alloc _).below hb6); have HO6 := hid ((HO5.out.alloc _).below hb6); have HA6 := hid ((HA5.out.alloc _).below hb6); have ht6 := (ht5.alloc _).below hb6; have hbw6 := (hbw5.alloc hbw5.size _).trans (hb6.mono (by have := hbw5.size; simp; omega)); have h76 := (h75.alloc _).below hb6; have hs76 := (hs75.alloc _).below hb6; have h86 := (h85.alloc _).below hb6; have hs86 := (hs85.alloc _).below hb6; have h116 := h11.below hb6; have hs116 := (hs11.alloc _).below hb6; have h14 := ceblk_new w6 ⟨kindM, nM, ownerM, needM, cameM, turnsM, thereM⟩ p14 c14; clear U0 U1 U2 U3 U4 U5 U6 Uf Ul Aa0 Aa1 Aa2 Aa3 Aal; obtain ⟨⟨Aa0, Aa1, Aa2, Aa3⟩, Aal⟩ := HA6.out.facts; dsimp only at Aa0 Aa1 Aa2 Aa3)
        | (go_at_call 17; refine (HRM.out _).mono ?_; rintro e w7 ⟨p16, c16, rfl, hs16, hb7⟩; have hz7 := hb7.size; simp only [World.size_alloc] at hz7; have hs7' := (hs6.alloc _).below hb7; have HC7 := hid ((HC6.out.alloc _).below hb7); have HO7 := hid ((HO6.out.alloc _).below hb7); have ht7 := (ht6.alloc _).below hb7; have hbw7 := (hbw6.alloc hbw6.size _).trans (hb7.mono (by have := hbw6.size; simp; omega)); have h77 := (h76.alloc _).below hb7; have hs77 := (hs76.alloc _).below hb7; have h87 := (h86.alloc _).below hb7; have hs87 := (hs86.alloc _).below hb7; have h117 := (h116.alloc _).below hb7; have hs117 := (hs116.alloc _).below hb7; have h147 := h14.below hb7; have hs147 := (hs14.alloc _).below hb7; have h16 := ceblk_new w7 ⟨kindM, nM, ownerM, needM, cameM, turnsM, thereM⟩ p16 c16; clear Aa0 Aa1 Aa2 Aa3 Aal))
      obtain ⟨wd, hwd⟩ : ∃ wd, wd = w7.alloc (.cells #[i64 kindM, i64 nM, i64 ownerM, i64 needM, .slice p16 cameM.length c16, i64 turnsM, .bool thereM] 24) := ⟨_, rfl⟩
      rw [← hwd]
      have G0 : CeBlk wd bC ⟨kind, n, owner, need, came, turns, there⟩ p c := by rw [hwd]; exact HC7.out.alloc _
      have G1 : CeBlk wd bO ⟨kind', n', owner', need', came', turns', there'⟩ q d := by rw [hwd]; exact HO7.out.alloc _
      have G2 : CeBlk wd w3.heap.size ⟨kind, n, owner, need, came, turns, there⟩ p7 c7 := by rw [hwd]; exact h77.alloc _
      have G3 : CeBlk wd w4.heap.size ⟨kindX, nX, ownerX, needX, cameX, turnsX, thereX⟩ p8 c8 := by rw [hwd]; exact h87.alloc _
      have G4 : CeBlk wd w5.heap.size ⟨kindX, nX, ownerX, needX, cameX, turnsX, thereX⟩ p11 c11 := by rw [hwd]; exact h117.alloc _
      have G5 : CeBlk wd w6.heap.size ⟨kindM, nM, ownerM, needM, cameM, turnsM, thereM⟩ p14 c14 := by rw [hwd]; exact h147.alloc _
      have G6 : CeBlk wd w7.heap.size ⟨kindM, nM, ownerM, needM, cameM, turnsM, thereM⟩ p16 c16 := by rw [hwd]; exact h16
      have Q0 : SlAt wd p c came := by rw [hwd]; exact hs7'.alloc _
      have Q1 : SlAt wd q d came' := by rw [hwd]; exact ht7.alloc _
      have Q2 : SlAt wd p7 c7 came := by rw [hwd]; exact hs77.alloc _
      have Q3 : SlAt wd p8 c8 cameX := by rw [hwd]; exact hs87.alloc _
      have Q4 : SlAt wd p11 c11 cameX := by rw [hwd]; exact hs117.alloc _
      have Q5 : SlAt wd p14 c14 cameM := by rw [hwd]; exact hs147.alloc _
      have Q6 : SlAt wd p16 c16 cameM := by rw [hwd]; exact hs16.alloc _
      have hbd : Below w.heap.size w wd := by rw [hwd]; exact hbw7.alloc hbw7.size _
      clear hwd h16 h147 h117 h87 h77 hs147 hs16 hs117 hs87 hs77 hs7' ht7 HC7 HO7
      have HR1 := hid (fun w1 (hb : Below wd.heap.size wd w1) => rsame_any ⟨kindX, nX, ownerX, needX, cameX, turnsX, thereX⟩ ⟨kindX, nX, ownerX, needX, cameX, turnsX, thereX⟩ p8 p11 c8 c11 w1 (Q3.below hb) (Q4.below hb))
      have HR2 := hid (fun w1 (hb : Below wd.heap.size wd w1) => rsame_any ⟨kindM, nM, ownerM, needM, cameM, turnsM, thereM⟩ ⟨kindM, nM, ownerM, needM, cameM, turnsM, thereM⟩ p14 p16 c14 c16 w1 (Q5.below hb) (Q6.below hb))
      have HK1 := hid (fun w1 (hb : Below wd.heap.size wd w1) => check_any ⟨kind, n, owner, need, came, turns, there⟩ p c w1 (Q0.below hb) hmx)
      have HK2 := hid (fun w1 (hb : Below wd.heap.size wd w1) => rcheck_any ⟨kind, n, owner, need, came, turns, there⟩ p c w1 (Q0.below hb) hmx)
      have HS1 := hid (fun w1 (hb : Below wd.heap.size wd w1) => same_any ⟨kind, n, owner, need, came, turns, there⟩ ⟨kind', n', owner', need', came', turns', there'⟩ p q c d w1 (Q0.below hb) (Q1.below hb))
      have HR3 := hid (fun w1 (hb : Below wd.heap.size wd w1) => rsame_any ⟨kind, n, owner, need, came, turns, there⟩ ⟨kind', n', owner', need', came', turns', there'⟩ p q c d w1 (Q0.below hb) (Q1.below hb))
      have HR4 := hid (fun w1 (hb : Below wd.heap.size wd w1) => rsame_any ⟨kind, n, owner, need, came, turns, there⟩ ⟨kind, n, owner, need, came, turns, there⟩ p p7 c c7 w1 (Q0.below hb) (Q2.below hb))
      simp only [decide_true] at HR1 HR2 HR4
      generalize decide ((⟨kind, n, owner, need, came, turns, there⟩ : Ce) = (⟨kind', n', owner', need', came', turns', there'⟩ : Ce)) = D at HS1 HR3
      generalize ckP ⟨kind, n, owner, need, came, turns, there⟩ = K1 at HK1 HK2
      unfold Ce.val at HR1 HR2 HR3 HR4 HK1 HK2 HS1
      dsimp only at HR1 HR2 HR3 HR4 HK1 HK2 HS1
      obtain ⟨g00, g01, g02, g03, g04, g05, g06⟩ := ce_all G0
      obtain ⟨g10, g11, g12, g13, g14, g15, g16⟩ := ce_all G1
      obtain ⟨g20, g21, g22, g23, g24, g25, g26⟩ := ce_all G2
      obtain ⟨g30, g31, g32, g33, g34, g35, g36⟩ := ce_all G3
      obtain ⟨g40, g41, g42, g43, g44, g45, g46⟩ := ce_all G4
      obtain ⟨g50, g51, g52, g53, g54, g55, g56⟩ := ce_all G5
      obtain ⟨g60, g61, g62, g63, g64, g65, g66⟩ := ce_all G6
      dsimp only at g00 g01 g02 g03 g04 g05 g06 g10 g11 g12 g13 g14 g15 g16 g20 g21 g22 g23 g24 g25 g26 g30 g31 g32 g33 g34 g35 g36 g40 g41 g42 g43 g44 g45 g46 g50 g51 g52 g53 g54 g55 g56 g60 g61 g62 g63 g64 g65 g66
      clear G0 G1 G2 G3 G4 G5 G6
      go_region_held3 (fun w' => Below wd.heap.size wd w') (first | exact (Below.refl _ _).drew | assumption) (first | (go_at_call 18; with_reducible refine (HR1.out _ ?_).mono ?_; (assumption); rintro e w' ⟨rfl, hbq⟩; have hq2 : Below wd.heap.size wd w' := below_more hbq (by assumption) (Nat.le_refl _); clear hbq) | (go_at_call 18; with_reducible refine (HR2.out _ ?_).mono ?_; (assumption); rintro e w' ⟨rfl, hbq⟩; have hq2 : Below wd.heap.size wd w' := below_more hbq (by assumption) (Nat.le_refl _); clear hbq) | (go_at_call 18; with_reducible refine (HR3.out _ ?_).mono ?_; (assumption); rintro e w' ⟨rfl, hbq⟩; have hq2 : Below wd.heap.size wd w' := below_more hbq (by assumption) (Nat.le_refl _); clear hbq) | (go_at_call 18; with_reducible refine (HR4.out _ ?_).mono ?_; (assumption); rintro e w' ⟨rfl, hbq⟩; have hq2 : Below wd.heap.size wd w' := below_more hbq (by assumption) (Nat.le_refl _); clear hbq) | (go_at_call 19; with_reducible refine (HK1.out _ ?_).mono ?_; (assumption); rintro e w' ⟨rfl, hbq⟩; have hq2 : Below wd.heap.size wd w' := below_more hbq (by assumption) (Nat.le_refl _); clear hbq) | (go_at_call 20; with_reducible refine (HK2.out _ ?_).mono ?_; (assumption); rintro e w' ⟨rfl, hbq⟩; have hq2 : Below wd.heap.size wd w' := below_more hbq (by assumption) (Nat.le_refl _); clear hbq) | (go_at_call 21; with_reducible refine (HS1.out _ ?_).mono ?_; (assumption); rintro e w' ⟨rfl, hbq⟩; have hq2 : Below wd.heap.size wd w' := below_more hbq (by assumption) (Nat.le_refl _); clear hbq))
      all_goals
        go_wp2
        go_ret
        refine ⟨ret_bool rfl, hbd.trans (Below.mono ?_ hbd.size)⟩
        assumption
end Go.Proofs.Ytfpgdaefdpjcmaa
