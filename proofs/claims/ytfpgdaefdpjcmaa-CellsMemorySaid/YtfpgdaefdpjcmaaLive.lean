/-
  The walk of the law's own live.
-/
import Derived.Test.YtfpgdaefdpjcmaaFew
import Derived.Test.YtfpgdaefdpjcmaaMake
namespace Go.Proofs.Ytfpgdaefdpjcmaa
open Go.RowKit

/-- A cell's block, stored into whole. -/
theorem ceblk_store {w : World} {b : Nat} {x : Ce} {p : Option Addr} {c : Nat} (h : CeBlk w b x p c) (x' : Ce) (p' : Option Addr) (c' : Nat) :
    CeBlk (((((((w.setCell ⟨b, 0, none⟩ (i64 x'.kind)).setCell ⟨b, 1, none⟩ (i64 x'.n)).setCell ⟨b, 2, none⟩ (i64 x'.owner)).setCell ⟨b, 3, none⟩ (i64 x'.need)).setCell ⟨b, 4, none⟩ (.slice p' x'.came.length c')).setCell ⟨b, 5, none⟩ (i64 x'.turns)).setCell ⟨b, 6, none⟩ (.bool x'.there)) b x' p' c' := by
  obtain ⟨kind, n, owner, need, came, turns, there⟩ := x
  obtain ⟨kind', n', owner', need', came', turns', there'⟩ := x'
  have h0 : CeBlk (w.setCell ⟨b, 0, none⟩ (i64 kind')) b ⟨kind', n, owner, need, came, turns, there⟩ p c := heap_setCell_same w b 0 _ _ _ h
  have h1 : CeBlk _ b ⟨kind', n', owner, need, came, turns, there⟩ p c := h0.setN n'
  have h2 : CeBlk _ b ⟨kind', n', owner', need, came, turns, there⟩ p c := h1.setOwner owner'
  have h3 : CeBlk (World.setCell _ ⟨b, 3, none⟩ (i64 need')) b ⟨kind', n', owner', need', came, turns, there⟩ p c := heap_setCell_same _ b 3 _ _ _ h2
  have h4 : CeBlk _ b ⟨kind', n', owner', need', came', turns, there⟩ p' c' := h3.setCame came' p' c'
  have h5 : CeBlk _ b ⟨kind', n', owner', need', came', turns', there⟩ p' c' := h4.setTurns turns'
  exact h5.setThere there'
theorem slat_store {w : World} {p : Option Addr} {c : Nat} {l : List Int} (h : SlAt w p c l) (b : Nat) (v0 v1 v2 v3 v4 v5 v6 : Value) (hne : ∀ q, p = some q → q.block ≠ b) :
    SlAt (((((((w.setCell ⟨b, 0, none⟩ v0).setCell ⟨b, 1, none⟩ v1).setCell ⟨b, 2, none⟩ v2).setCell ⟨b, 3, none⟩ v3).setCell ⟨b, 4, none⟩ v4).setCell ⟨b, 5, none⟩ v5).setCell ⟨b, 6, none⟩ v6) p c l := by
  have h0 := h.set b 0 v0 hne
  have h1 := h0.set b 1 v1 hne
  have h2 := h1.set b 2 v2 hne
  have h3 := h2.set b 3 v3 hne
  have h4 := h3.set b 4 v4 hne
  have h5 := h4.set b 5 v5 hne
  exact h5.set b 6 v6 hne
theorem below_store {B : Nat} {a w : World} (h : Below B a w) (b : Nat) (hb : B ≤ b) (v0 v1 v2 v3 v4 v5 v6 : Value) :
    Below B a (((((((w.setCell ⟨b, 0, none⟩ v0).setCell ⟨b, 1, none⟩ v1).setCell ⟨b, 2, none⟩ v2).setCell ⟨b, 3, none⟩ v3).setCell ⟨b, 4, none⟩ v4).setCell ⟨b, 5, none⟩ v5).setCell ⟨b, 6, none⟩ v6) := by
  have h0 := h.setCell (p := ⟨b, 0, none⟩) hb v0
  have h1 := h0.setCell (p := ⟨b, 1, none⟩) hb v1
  have h2 := h1.setCell (p := ⟨b, 2, none⟩) hb v2
  have h3 := h2.setCell (p := ⟨b, 3, none⟩) hb v3
  have h4 := h3.setCell (p := ⟨b, 4, none⟩) hb v4
  have h5 := h4.setCell (p := ⟨b, 5, none⟩) hb v5
  exact h5.setCell (p := ⟨b, 6, none⟩) hb v6

theorem make_at (k n : Int) (x : Ce) (e : Int) (hr : makeP k n = (x, e)) (w : World) : Calls Try.prog 16 #[i64 k, i64 n] w fun en w' => ∃ p c, en = .returned (.tuple #[x.val p c, i64 e]) ∧ SlAt w' p c x.came ∧ Below w.heap.size w w' := by
  have := make_any k n w
  rw [hr] at this
  exact this
theorem ceblk_setO {w : World} {b b' : Nat} {x : Ce} {p : Option Addr} {c : Nat} (h : CeBlk w b x p c) (hne : b ≠ b') (o : Nat) (v : Value) : CeBlk (w.setCell ⟨b', o, none⟩ v) b x p c := (Below.heap_setCell w ⟨b', o, none⟩ v b hne).trans h
theorem ceblk_storeO {w : World} {b : Nat} {x : Ce} {p : Option Addr} {c : Nat} (h : CeBlk w b x p c) (b' : Nat) (hne : b ≠ b') (v0 v1 v2 v3 v4 v5 v6 : Value) :
    CeBlk (((((((w.setCell ⟨b', 0, none⟩ v0).setCell ⟨b', 1, none⟩ v1).setCell ⟨b', 2, none⟩ v2).setCell ⟨b', 3, none⟩ v3).setCell ⟨b', 4, none⟩ v4).setCell ⟨b', 5, none⟩ v5).setCell ⟨b', 6, none⟩ v6) b x p c := by
  have h0 := ceblk_setO h hne 0 v0
  have h1 := ceblk_setO h0 hne 1 v1
  have h2 := ceblk_setO h1 hne 2 v2
  have h3 := ceblk_setO h2 hne 3 v3
  have h4 := ceblk_setO h3 hne 4 v4
  have h5 := ceblk_setO h4 hne 5 v5
  exact ceblk_setO h5 hne 6 v6

/-- A cell taken over from another: the stores at a round's end, where the other has been laid behind the call, or ahead of it. -/
theorem cell_new {B b : Nat} {w W w3 : World} {x x' : Ce} {p p3 : Option Addr} {c c3 : Nat} (hB : B ≤ b) (hblk : CeBlk w3 b x p c) (hs3 : SlAt w3 p3 c3 x'.came) (hl3 : ∀ q, p3 = some q → W.heap.size ≤ q.block ∧ q.block < w3.heap.size) (hbW : b < W.heap.size) (hbw : Below B w w3) (o : Obj) :
    CeBlk ((((((((w3.setCell ⟨b, 0, none⟩ (i64 x'.kind)).setCell ⟨b, 1, none⟩ (i64 x'.n)).setCell ⟨b, 2, none⟩ (i64 x'.owner)).setCell ⟨b, 3, none⟩ (i64 x'.need)).setCell ⟨b, 4, none⟩ (.slice p3 x'.came.length c3)).setCell ⟨b, 5, none⟩ (i64 x'.turns)).setCell ⟨b, 6, none⟩ (.bool x'.there)).alloc o) b x' p3 c3 ∧
    SlAt ((((((((w3.setCell ⟨b, 0, none⟩ (i64 x'.kind)).setCell ⟨b, 1, none⟩ (i64 x'.n)).setCell ⟨b, 2, none⟩ (i64 x'.owner)).setCell ⟨b, 3, none⟩ (i64 x'.need)).setCell ⟨b, 4, none⟩ (.slice p3 x'.came.length c3)).setCell ⟨b, 5, none⟩ (i64 x'.turns)).setCell ⟨b, 6, none⟩ (.bool x'.there)).alloc o) p3 c3 x'.came ∧
    Below B w ((((((((w3.setCell ⟨b, 0, none⟩ (i64 x'.kind)).setCell ⟨b, 1, none⟩ (i64 x'.n)).setCell ⟨b, 2, none⟩ (i64 x'.owner)).setCell ⟨b, 3, none⟩ (i64 x'.need)).setCell ⟨b, 4, none⟩ (.slice p3 x'.came.length c3)).setCell ⟨b, 5, none⟩ (i64 x'.turns)).setCell ⟨b, 6, none⟩ (.bool x'.there)).alloc o) := by
  have h1 := ceblk_store hblk x' p3 c3
  have h2 := slat_store hs3 b (i64 x'.kind) (i64 x'.n) (i64 x'.owner) (i64 x'.need) (.slice p3 x'.came.length c3) (i64 x'.turns) (.bool x'.there) (fun q hq => by have := hl3 q hq; omega)
  have h3 := below_store hbw b hB (i64 x'.kind) (i64 x'.n) (i64 x'.owner) (i64 x'.need) (.slice p3 x'.came.length c3) (i64 x'.turns) (.bool x'.there)
  have hz : B ≤ (((((((w3.setCell ⟨b, 0, none⟩ (i64 x'.kind)).setCell ⟨b, 1, none⟩ (i64 x'.n)).setCell ⟨b, 2, none⟩ (i64 x'.owner)).setCell ⟨b, 3, none⟩ (i64 x'.need)).setCell ⟨b, 4, none⟩ (.slice p3 x'.came.length c3)).setCell ⟨b, 5, none⟩ (i64 x'.turns)).setCell ⟨b, 6, none⟩ (.bool x'.there)).heap.size := by
    have := (Array.getElem?_eq_some_iff.1 h1).1
    omega
  exact ⟨h1.alloc o, h2.alloc o, h3.alloc hz o⟩

theorem cell_new2 {B b b0 : Nat} {w W w3 : World} {x x' : Ce} {p p3 : Option Addr} {c c3 : Nat} (hB : B ≤ b) (hB0 : B ≤ b0) (hblk : CeBlk w3 b x p c) (hs3 : SlAt w3 p3 c3 x'.came) (hl3 : ∀ q, p3 = some q → W.heap.size ≤ q.block ∧ q.block < w3.heap.size) (hbW : b < W.heap.size) (hb0 : b0 < W.heap.size) (hne : b ≠ b0) (hbw : Below B w w3) (v0 v1 v2 v3 v4 v5 v6 : Value) :
    CeBlk ((((((((((((((w3.setCell ⟨b0, 0, none⟩ v0).setCell ⟨b0, 1, none⟩ v1).setCell ⟨b0, 2, none⟩ v2).setCell ⟨b0, 3, none⟩ v3).setCell ⟨b0, 4, none⟩ v4).setCell ⟨b0, 5, none⟩ v5).setCell ⟨b0, 6, none⟩ v6).setCell ⟨b, 0, none⟩ (i64 x'.kind)).setCell ⟨b, 1, none⟩ (i64 x'.n)).setCell ⟨b, 2, none⟩ (i64 x'.owner)).setCell ⟨b, 3, none⟩ (i64 x'.need)).setCell ⟨b, 4, none⟩ (.slice p3 x'.came.length c3)).setCell ⟨b, 5, none⟩ (i64 x'.turns)).setCell ⟨b, 6, none⟩ (.bool x'.there)) b x' p3 c3 ∧ SlAt ((((((((((((((w3.setCell ⟨b0, 0, none⟩ v0).setCell ⟨b0, 1, none⟩ v1).setCell ⟨b0, 2, none⟩ v2).setCell ⟨b0, 3, none⟩ v3).setCell ⟨b0, 4, none⟩ v4).setCell ⟨b0, 5, none⟩ v5).setCell ⟨b0, 6, none⟩ v6).setCell ⟨b, 0, none⟩ (i64 x'.kind)).setCell ⟨b, 1, none⟩ (i64 x'.n)).setCell ⟨b, 2, none⟩ (i64 x'.owner)).setCell ⟨b, 3, none⟩ (i64 x'.need)).setCell ⟨b, 4, none⟩ (.slice p3 x'.came.length c3)).setCell ⟨b, 5, none⟩ (i64 x'.turns)).setCell ⟨b, 6, none⟩ (.bool x'.there)) p3 c3 x'.came ∧ Below B w ((((((((((((((w3.setCell ⟨b0, 0, none⟩ v0).setCell ⟨b0, 1, none⟩ v1).setCell ⟨b0, 2, none⟩ v2).setCell ⟨b0, 3, none⟩ v3).setCell ⟨b0, 4, none⟩ v4).setCell ⟨b0, 5, none⟩ v5).setCell ⟨b0, 6, none⟩ v6).setCell ⟨b, 0, none⟩ (i64 x'.kind)).setCell ⟨b, 1, none⟩ (i64 x'.n)).setCell ⟨b, 2, none⟩ (i64 x'.owner)).setCell ⟨b, 3, none⟩ (i64 x'.need)).setCell ⟨b, 4, none⟩ (.slice p3 x'.came.length c3)).setCell ⟨b, 5, none⟩ (i64 x'.turns)).setCell ⟨b, 6, none⟩ (.bool x'.there)) := by
  have g1 := ceblk_storeO hblk b0 hne v0 v1 v2 v3 v4 v5 v6
  have g2 := slat_store hs3 b0 v0 v1 v2 v3 v4 v5 v6 (fun q hq => by have := hl3 q hq; omega)
  have g3 := below_store hbw b0 hB0 v0 v1 v2 v3 v4 v5 v6
  have h1 := ceblk_store g1 x' p3 c3
  have h2 := slat_store g2 b (i64 x'.kind) (i64 x'.n) (i64 x'.owner) (i64 x'.need) (.slice p3 x'.came.length c3) (i64 x'.turns) (.bool x'.there) (fun q hq => by have := hl3 q hq; omega)
  have h3 := below_store g3 b hB (i64 x'.kind) (i64 x'.n) (i64 x'.owner) (i64 x'.need) (.slice p3 x'.came.length c3) (i64 x'.turns) (.bool x'.there)
  exact ⟨h1, h2, h3⟩

theorem one_at (x x' : Ce) (wk : Int) (a : Ac) (v e : Int) (hr : oneP x wk a = (x', v, e)) (hm : x.came.length ≤ 17592186043904) (p : Option Addr) (c : Nat) (w : World) (h : SlAt w p c x.came) :
    Calls Try.prog 14 #[x.val p c, i64 wk, a.val] w fun en w' => ∃ p c, en = .returned (.tuple #[x'.val p c, i64 v, i64 e]) ∧ SlAt w' p c x'.came ∧ (∀ q, p = some q → w.heap.size ≤ q.block ∧ q.block < w'.heap.size) ∧ Below w.heap.size w w' := by
  have := one_any x p c wk a w h hm
  rw [hr] at this
  exact this

set_option maxHeartbeats 2000000 in
theorem live_any (w : World) : Calls Try.prog 11 #[] w fun e w' => e = .returned (.bool true) ∧ Below w.heap.size w w' := by
  have HM : Hid (∀ w1, Calls Try.prog 16 #[i64 3, i64 2] w1 fun e w' => ∃ p c, e = .returned (.tuple #[.agg #[i64 3, i64 0, i64 (-1), i64 2, .slice p 0 c, i64 0, .bool false], i64 0]) ∧ SlAt w' p c [] ∧ Below w1.heap.size w1 w') := fun w1 => make_at 3 2 ⟨3, 0, -1, 2, [], 0, false⟩ 0 (by decide) w1
  have H1 : Hid (∀ (p : Option Addr) (c : Nat) w1, SlAt w1 p c [] → Calls Try.prog 14 #[.agg #[i64 3, i64 0, i64 (-1), i64 2, .slice p 0 c, i64 0, .bool false], i64 0, .agg #[i64 5, i64 0, i64 0, i64 0]] w1 fun e w' => ∃ p c, e = .returned (.tuple #[.agg #[i64 3, i64 0, i64 (-1), i64 2, .slice p 1 c, i64 0, .bool false], i64 0, i64 0]) ∧ SlAt w' p c [0] ∧ (∀ q, p = some q → w1.heap.size ≤ q.block ∧ q.block < w'.heap.size) ∧ Below w1.heap.size w1 w') :=
    fun p c w1 h => one_at ⟨3, 0, -1, 2, [], 0, false⟩ ⟨3, 0, -1, 2, [0], 0, false⟩ 0 ⟨5, 0, 0, 0⟩ 0 0 (by decide) (by simp) p c w1 h
  have H2 : Hid (∀ (p : Option Addr) (c : Nat) w1, SlAt w1 p c [0] → Calls Try.prog 14 #[.agg #[i64 3, i64 0, i64 (-1), i64 2, .slice p 1 c, i64 0, .bool false], i64 0, .agg #[i64 6, i64 0, i64 0, i64 0]] w1 fun e w' => ∃ p c, e = .returned (.tuple #[.agg #[i64 3, i64 0, i64 (-1), i64 2, .slice p 1 c, i64 0, .bool false], i64 0, i64 231]) ∧ SlAt w' p c [0] ∧ (∀ q, p = some q → w1.heap.size ≤ q.block ∧ q.block < w'.heap.size) ∧ Below w1.heap.size w1 w') :=
    fun p c w1 h => one_at ⟨3, 0, -1, 2, [0], 0, false⟩ ⟨3, 0, -1, 2, [0], 0, false⟩ 0 ⟨6, 0, 0, 0⟩ 0 231 (by decide) (by simp) p c w1 h
  have H3 : Hid (∀ (p : Option Addr) (c : Nat) w1, SlAt w1 p c [0] → Calls Try.prog 14 #[.agg #[i64 3, i64 0, i64 (-1), i64 2, .slice p 1 c, i64 0, .bool false], i64 1, .agg #[i64 5, i64 0, i64 0, i64 0]] w1 fun e w' => ∃ p c, e = .returned (.tuple #[.agg #[i64 3, i64 0, i64 (-1), i64 2, .slice p 0 c, i64 1, .bool false], i64 0, i64 0]) ∧ SlAt w' p c [] ∧ (∀ q, p = some q → w1.heap.size ≤ q.block ∧ q.block < w'.heap.size) ∧ Below w1.heap.size w1 w') :=
    fun p c w1 h => one_at ⟨3, 0, -1, 2, [0], 0, false⟩ ⟨3, 0, -1, 2, [], 1, false⟩ 1 ⟨5, 0, 0, 0⟩ 0 0 (by decide) (by simp) p c w1 h
  have H4 : Hid (∀ (p : Option Addr) (c : Nat) w1, SlAt w1 p c [] → Calls Try.prog 14 #[.agg #[i64 3, i64 0, i64 (-1), i64 2, .slice p 0 c, i64 1, .bool false], i64 0, .agg #[i64 6, i64 0, i64 0, i64 0]] w1 fun e w' => ∃ p c, e = .returned (.tuple #[.agg #[i64 3, i64 0, i64 (-1), i64 2, .slice p 0 c, i64 1, .bool false], i64 1, i64 0]) ∧ SlAt w' p c [] ∧ (∀ q, p = some q → w1.heap.size ≤ q.block ∧ q.block < w'.heap.size) ∧ Below w1.heap.size w1 w') :=
    fun p c w1 h => one_at ⟨3, 0, -1, 2, [], 1, false⟩ ⟨3, 0, -1, 2, [], 1, false⟩ 0 ⟨6, 0, 0, 0⟩ 1 0 (by decide) (by simp) p c w1 h
  go_enter Try.func11, Try.ntmps11
  go_wp2_with (go_at_call 16; refine (HM.out _).mono ?_; rintro e w1 ⟨p1, c1, rfl, hs1, hb1⟩; have hz1 := hb1.size)
  refine (H1.out _ _ _ (hs1.alloc _)).mono ?_
  rintro e w2 ⟨p2, c2, rfl, hs2, hl2, hb2⟩
  have hz2 := hb2.size
  simp only [World.size_alloc] at hz2 hl2
  have HB2 := hid ((ceblk_new w1 ⟨3, 0, -1, 2, [], 0, false⟩ p1 c1).below hb2)
  obtain ⟨⟨q0, q1, q2, q3, q4, q5, q6⟩, qf, ql⟩ := HB2.out.facts
  dsimp only [List.length_nil] at q0 q1 q2 q3 q4 q5 q6
  have HS2 := hid (slat_store hs2 w1.heap.size (i64 3) (i64 0) (i64 (-1)) (i64 2) (.slice p2 1 c2) (i64 0) (.bool false) (fun q hq => by have := hl2 q hq; omega))
  have HB2' := hid (ceblk_store HB2.out ⟨3, 0, -1, 2, [0], 0, false⟩ p2 c2)
  have hbw2 := below_store ((hb1.alloc hz1 _).trans (hb2.mono (by simp; omega))) w1.heap.size hz1 (i64 3) (i64 0) (i64 (-1)) (i64 2) (.slice p2 1 c2) (i64 0) (.bool false)
  clear hs1
  go_wp2_with fail
  refine (H2.out _ _ _ HS2.out).mono ?_
  rintro e w3 ⟨p3, c3, rfl, hs3, hl3, hb3⟩
  have hz3 := hb3.size
  have HB3 := hid (HB2'.out.below hb3)
  have HS3 := hid ((HS2.out.below hb3).alloc (.cells #[i64 3, i64 0, i64 (-1), i64 2, .slice p3 1 c3, i64 0, .bool false] 24))
  have hbw3 := hbw2.trans (hb3.mono hbw2.size)
  clear hb3 hbw2 hb2 hs2 hl3 hs3 q0 q1 q2 q3 q4 q5 q6 HB2' HB2 HS2
  simp only [World.size_setCell] at hz3
  obtain ⟨⟨q0, q1, q2, q3, q4, q5, q6⟩, qf, ql⟩ := HB3.out.facts
  dsimp only [List.length_singleton] at q0 q1 q2 q3 q4 q5 q6
  go_wp2_with fail
  refine (H3.out _ _ _ HS3.out).mono ?_
  rintro e w4 ⟨p4, c4, rfl, hs4, hl4, hb4⟩
  have hz4 := hb4.size
  simp only [World.size_alloc] at hz4
  have hbw4 := (hbw3.alloc hbw3.size _).trans (hb4.mono (by have := hbw3.size; simp; omega))
  clear q0 q1 q2 q3 q4 q5 q6 hb4 HS3 HB3
  go_wp2_with fail
  refine (H4.out _ _ _ (hs4.alloc _)).mono ?_
  rintro e w5 ⟨p5, c5, rfl, hs5, hl5, hb5⟩
  have hz5 := hb5.size
  have hbw5 := (hbw4.alloc hbw4.size _).trans (hb5.mono (by have := hbw4.size; simp; omega))
  go_wp2_with fail
  go_ret
  exact ⟨ret_bool rfl, hbw5.alloc hbw5.size _⟩
end Go.Proofs.Ytfpgdaefdpjcmaa
