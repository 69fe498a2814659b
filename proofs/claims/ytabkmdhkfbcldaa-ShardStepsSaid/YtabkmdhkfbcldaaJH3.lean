/-
  The walk of cells.One.
  Rows of cells.
  Plain facts on what an access makes of a cell.
  The walks of the document's number, lock and future.
  A cell's block behind a store of the whole cell.
  The walk of the document's barrier.
  The walk of the document's One.
  A memory as the walks have it, and what is made of it, in plain words.
-/
import Derived.Test.YtabkmdhkfbcldaaJH2
import Derived.Test.YtabkmdhkfbcldaaJH0
namespace Go.Proofs.Ytabkmdhkfbcldaa
open Go.RowKit

theorem stepP_err (x : Ce) (wk : Int) (a : Ac) (h : (stepP x wk a).2.2 ≠ 0) : (stepP x wk a).1 = x ∧ (stepP x wk a).2.1 = 0 := by
  unfold stepP at h ⊢
  repeat' split at h
  all_goals first
    | exact absurd rfl h
    | (simp_all; done)

/-- What a function that makes a cell tells, and where its slice lies. -/
def CeTellL (x : Ce) (r : List Value) (w : World) (e : Ending) (w' : World) : Prop :=
  ∃ p c, e = .returned (.tuple ([x.val p c] ++ r).toArray) ∧ SlAt w' p c x.came ∧ (∀ q, p = some q → w.heap.size ≤ q.block ∧ q.block < w'.heap.size) ∧ Below w.heap.size w w'

def AcBlk (w : World) (b : Nat) (a : Ac) : Prop := w.heap[b]? = some (.cells #[i64 a.kind, i64 a.cell, i64 a.old, i64 a.new] 88 (0, 0))
def AcFacts (w : World) (b : Nat) (a : Ac) : Prop :=
  (w.cell? ⟨b, 0, none⟩ = some (i64 a.kind) ∧ w.cell? ⟨b, 1, none⟩ = some (i64 a.cell) ∧ w.cell? ⟨b, 2, none⟩ = some (i64 a.old) ∧ w.cell? ⟨b, 3, none⟩ = some (i64 a.new)) ∧ b < w.heap.size
theorem AcBlk.facts {w : World} {b : Nat} {a : Ac} (h : AcBlk w b a) : AcFacts w b a :=
  ⟨⟨cell_of_row w b 0 _ _ _ h, cell_of_row w b 1 _ _ _ h, cell_of_row w b 2 _ _ _ h, cell_of_row w b 3 _ _ _ h⟩, (Array.getElem?_eq_some_iff.1 h).1⟩
theorem AcBlk.alloc {w : World} {b : Nat} {a : Ac} (h : AcBlk w b a) (o : Obj) : AcBlk (w.alloc o) b a := (Below.heap_alloc w o b (Array.getElem?_eq_some_iff.1 h).1).trans h
theorem AcBlk.below {w w' : World} {b : Nat} {a : Ac} (h : AcBlk w b a) (hb : Below w.heap.size w w') : AcBlk w' b a := (hb.block b (Array.getElem?_eq_some_iff.1 h).1).trans h
theorem ceblk_new (w : World) (x : Ce) (p : Option Addr) (c : Nat) : CeBlk (w.alloc (.cells #[i64 x.kind, i64 x.n, i64 x.owner, i64 x.need, .slice p x.came.length c, i64 x.turns, .bool x.there] 74)) w.heap.size x p c := heap_alloc_new w _
theorem acblk_new (w : World) (a : Ac) : AcBlk (w.alloc (.cells #[i64 a.kind, i64 a.cell, i64 a.old, i64 a.new] 88)) w.heap.size a := heap_alloc_new w _
theorem CeBlk.belowB {B : Nat} {w w' : World} {b : Nat} {x : Ce} {p : Option Addr} {c : Nat} (h : CeBlk w b x p c) (hb : Below B w w') (hlt : b < B) : CeBlk w' b x p c := (hb.block b hlt).trans h
theorem SlAt.belowB {B : Nat} {W w : World} {p : Option Addr} {c : Nat} {l : List Int} (h : SlAt W p c l) (hb : Below B W w) (hlt : ∀ q, p = some q → q.block < B) : SlAt w p c l := by
  refine ⟨h.1, h.2.1, h.2.2.1, fun hne => ?_⟩
  obtain ⟨b, o, rfl, hc⟩ := h.2.2.2 hne
  exact ⟨b, o, rfl, fun i hi => by rw [hb.cell (p := ⟨b, o + i, none⟩) (show b < B from hlt ⟨b, o, none⟩ rfl)]; exact hc i hi⟩

/-- The blocks at One's beginning. -/
theorem one_start (w : World) (x : Ce) (p : Option Addr) (c : Nat) (a : Ac) : ∀ W, W = ((w.alloc (.cells #[i64 x.kind, i64 x.n, i64 x.owner, i64 x.need, .slice p x.came.length c, i64 x.turns, .bool x.there] 74)).alloc (.cells #[i64 a.kind, i64 a.cell, i64 a.old, i64 a.new] 88)).alloc (.cells #[.int .i64 0, .int .i64 0, .int .i64 0, .int .i64 0, .slice none 0 0, .int .i64 0, .bool false] 74) →
    CeBlk W w.heap.size x p c ∧ AcBlk W (w.heap.size + 1) a ∧ CeBlk W (w.heap.size + 1 + 1) ce0 none 0 := by
  rintro W rfl
  refine ⟨((ceblk_new w x p c).alloc _).alloc _, ?_, ?_⟩
  · have := (acblk_new (w.alloc (.cells #[i64 x.kind, i64 x.n, i64 x.owner, i64 x.need, .slice p x.came.length c, i64 x.turns, .bool x.there] 74)) a)
    rw [World.size_alloc] at this
    exact this.alloc _
  · have := ceblk_new ((w.alloc (.cells #[i64 x.kind, i64 x.n, i64 x.owner, i64 x.need, .slice p x.came.length c, i64 x.turns, .bool x.there] 74)).alloc (.cells #[i64 a.kind, i64 a.cell, i64 a.old, i64 a.new] 88)) ce0 none 0
    rw [World.size_alloc, World.size_alloc] at this
    exact this

set_option maxHeartbeats 4000000 in
theorem one_bad (x : Ce) (p : Option Addr) (c : Nat) (wk : Int) (a : Ac) (w : World) (hsl : SlAt w p c x.came) (hm : x.came.length ≤ 17592186043904) (hok : okP x = false) :
    Calls Try.prog 69 #[x.val p c, i64 wk, a.val] w (CeTellL (oneP x wk a).1 [i64 (oneP x wk a).2.1, i64 (oneP x wk a).2.2] w) := by
  obtain ⟨kind, n, owner, need, came, turns, there⟩ := x
  obtain ⟨ak, ac, ao, an⟩ := a
  dsimp only at hsl hm
  unfold Ce.val Ac.val
  dsimp only
  have HC := hid (fun w1 (h : SlAt w1 p c came) =>
    show Calls Try.prog 56 #[.agg #[i64 kind, i64 n, i64 owner, i64 need, .slice p came.length c, i64 turns, .bool there]] w1 (fun e w' => ∃ pw cw, e = .returned (.agg #[i64 kind, i64 n, i64 owner, i64 need, .slice pw came.length cw, i64 turns, .bool there]) ∧ w'.ownsRow w1.heap.size 3 1 (.slice pw came.length cw) came.length (i64s came) ∧ Below w1.heap.size w1 w') from copied_any ⟨kind, n, owner, need, came, turns, there⟩ p c w1 hm h)
  have HK := hid (fun w1 (h : SlAt w1 p c came) => check_any ⟨kind, n, owner, need, came, turns, there⟩ p c w1 h hm)
  unfold Ce.val at HK
  dsimp only at HK
  obtain ⟨W3, hW3⟩ : ∃ W3, W3 = ((w.alloc (.cells #[i64 kind, i64 n, i64 owner, i64 need, .slice p came.length c, i64 turns, .bool there] 74)).alloc (.cells #[i64 ak, i64 ac, i64 ao, i64 an] 88)).alloc (.cells #[.int .i64 0, .int .i64 0, .int .i64 0, .int .i64 0, .slice none 0 0, .int .i64 0, .bool false] 74) := ⟨_, rfl⟩
  have HST3 := hid (one_start w ⟨kind, n, owner, need, came, turns, there⟩ p c ⟨ak, ac, ao, an⟩ W3 hW3)
  have hs3 : SlAt W3 p c came := by rw [hW3]; exact ((hsl.alloc _).alloc _).alloc _
  have hb3 : Below w.heap.size w W3 := by rw [hW3]; exact (((Below.refl _ _).alloc (Nat.le_refl _) _).alloc (by simp) _).alloc (by simp; omega) _
  have hz3 : w.heap.size + 3 = W3.heap.size := by rw [hW3]; simp
  have HW3 := hid hW3
  have HZ3 := hid hz3
  have hz3 : w.heap.size + 3 ≤ W3.heap.size := by omega
  clear hW3 HZ3
  have HP : Hid (oneP ⟨kind, n, owner, need, came, turns, there⟩ wk ⟨ak, ac, ao, an⟩ = (⟨kind, n, owner, need, came, turns, there⟩, 0, 230)) := by simp [Hid, oneP, hok]
  have hck : ckP ⟨kind, n, owner, need, came, turns, there⟩ = 230 := by simp [ckP, hok]
  rw [hck] at HK
  clear hok hck
  go_enter Try.func69, Try.ntmps69
  go_wp2_with (first
    | (go_at_call 56; rw [← HW3.out]; refine (HC.out _ hs3).mono ?_; rintro e w1 ⟨pw, cw, rfl, how, hb1⟩; have hs1 := hs3.below hb1; have HSW := hid (own_slat how); have hz1 := hb1.size; have HA1 := hid (HST3.out.1.below hb1); have HC1 := hid (HST3.out.2.1.below hb1); have HZ1 := hid (HST3.out.2.2.below hb1); have HPW := hid (own_lt how); have hbw1 := hb3.trans (hb1.mono (by omega)); obtain ⟨⟨ap0, ap1, ap2, ap3, ap4, ap5, ap6⟩, afp, alp⟩ := HA1.out.facts; dsimp only at ap0 ap1 ap2 ap3 ap4 ap5 ap6; obtain ⟨⟨cp0, cp1, cp2, cp3⟩, clp⟩ := HC1.out.facts; dsimp only at cp0 cp1 cp2 cp3; obtain ⟨⟨zp0, zp1, zp2, zp3, zp4, zp5, zp6⟩, zfp, zlp⟩ := HZ1.out.facts)
    | (go_at_call 55; refine (HK.out _ (hs1.alloc _)).mono ?_; rintro e w2 ⟨rfl, hb2⟩; have hs2 := (hs1.alloc _).below hb2; have HSW2 := hid ((HSW.out.alloc _).below hb2); have hz2 := hb2.size; simp only [World.size_alloc] at hz2; have HA2 := hid ((HA1.out.alloc _).below hb2); have HC2 := hid ((HC1.out.alloc _).below hb2); have HZ2 := hid ((HZ1.out.alloc _).below hb2); have HW2 := hid ((ceblk_new w1 ⟨kind, n, owner, need, came, turns, there⟩ pw cw).below hb2); have hbw2 := (hbw1.alloc (by omega) _).trans (hb2.mono (by simp; omega)); obtain ⟨⟨aq0, aq1, aq2, aq3, aq4, aq5, aq6⟩, afq, alq⟩ := HA2.out.facts; dsimp only at aq0 aq1 aq2 aq3 aq4 aq5 aq6; obtain ⟨⟨cq0, cq1, cq2, cq3⟩, clq⟩ := HC2.out.facts; dsimp only at cq0 cq1 cq2 cq3; obtain ⟨⟨zq0, zq1, zq2, zq3, zq4, zq5, zq6⟩, zfq, zlq⟩ := HZ2.out.facts; obtain ⟨⟨wq0, wq1, wq2, wq3, wq4, wq5, wq6⟩, wfq, wlq⟩ := HW2.out.facts; dsimp only at wq0 wq1 wq2 wq3 wq4 wq5 wq6))
  have HNE : Hid (∀ q, pw = some q → q.block ≠ w.heap.size + 1 + 1) := fun q hq e => by have := own_ge how q.block (by subst hq; rfl); omega
  exact bodyPost_ret (v := .tuple #[(Ce.mk kind n owner need came turns there).val pw cw, i64 0, i64 230]) (by simp [results, Try.results69, go_sem, Ce.val, wq0, wq1, wq2, wq3, wq4, wq5, wq6, zq0, zq1, zq2, zq3, zq4, zq5, zq6]) rfl (by
    rw [HP.out]
    refine ⟨pw, cw, rfl, ?_, fun q hq => ⟨by have := own_ge how q.block (by subst hq; rfl); omega, by have h2 := HPW.out q.block (by subst hq; rfl); simp; omega⟩, ?_⟩
    · repeat (refine SlAt.set ?_ _ _ _ HNE.out)
      exact HSW2.out
    · repeat (refine Below.setCell ?_ (by simp; omega) _)
      exact hbw2)

set_option maxHeartbeats 4000000 in
theorem one_noW (x : Ce) (p : Option Addr) (c : Nat) (wk : Int) (a : Ac) (w : World) (hsl : SlAt w p c x.came) (hm : x.came.length ≤ 17592186043904) (hok : okP x = true) (hw : isW wk = false) :
    Calls Try.prog 69 #[x.val p c, i64 wk, a.val] w (CeTellL (oneP x wk a).1 [i64 (oneP x wk a).2.1, i64 (oneP x wk a).2.2] w) := by
  obtain ⟨kind, n, owner, need, came, turns, there⟩ := x
  obtain ⟨ak, ac, ao, an⟩ := a
  dsimp only at hsl hm
  unfold Ce.val Ac.val
  dsimp only
  have HC := hid (fun w1 (h : SlAt w1 p c came) =>
    show Calls Try.prog 56 #[.agg #[i64 kind, i64 n, i64 owner, i64 need, .slice p came.length c, i64 turns, .bool there]] w1 (fun e w' => ∃ pw cw, e = .returned (.agg #[i64 kind, i64 n, i64 owner, i64 need, .slice pw came.length cw, i64 turns, .bool there]) ∧ w'.ownsRow w1.heap.size 3 1 (.slice pw came.length cw) came.length (i64s came) ∧ Below w1.heap.size w1 w') from copied_any ⟨kind, n, owner, need, came, turns, there⟩ p c w1 hm h)
  have HK := hid (fun w1 (h : SlAt w1 p c came) => check_any ⟨kind, n, owner, need, came, turns, there⟩ p c w1 h hm)
  unfold Ce.val at HK
  dsimp only at HK
  obtain ⟨W3, hW3⟩ : ∃ W3, W3 = ((w.alloc (.cells #[i64 kind, i64 n, i64 owner, i64 need, .slice p came.length c, i64 turns, .bool there] 74)).alloc (.cells #[i64 ak, i64 ac, i64 ao, i64 an] 88)).alloc (.cells #[.int .i64 0, .int .i64 0, .int .i64 0, .int .i64 0, .slice none 0 0, .int .i64 0, .bool false] 74) := ⟨_, rfl⟩
  have HST3 := hid (one_start w ⟨kind, n, owner, need, came, turns, there⟩ p c ⟨ak, ac, ao, an⟩ W3 hW3)
  have hs3 : SlAt W3 p c came := by rw [hW3]; exact ((hsl.alloc _).alloc _).alloc _
  have hb3 : Below w.heap.size w W3 := by rw [hW3]; exact (((Below.refl _ _).alloc (Nat.le_refl _) _).alloc (by simp) _).alloc (by simp; omega) _
  have hz3 : w.heap.size + 3 = W3.heap.size := by rw [hW3]; simp
  have HW3 := hid hW3
  have HZ3 := hid hz3
  have hz3 : w.heap.size + 3 ≤ W3.heap.size := by omega
  clear hW3 HZ3
  have HP : Hid (oneP ⟨kind, n, owner, need, came, turns, there⟩ wk ⟨ak, ac, ao, an⟩ = (⟨kind, n, owner, need, came, turns, there⟩, 0, 1)) := by simp [Hid, oneP, hok, hw]
  have hck : ckP ⟨kind, n, owner, need, came, turns, there⟩ = 0 := by simp [ckP, hok]
  have HIW := hid (isW_any wk)
  rw [hck] at HK
  rw [hw] at HIW
  clear hok hck hw
  go_enter Try.func69, Try.ntmps69
  go_wp2_with (first
    | (go_at_call 56; rw [← HW3.out]; refine (HC.out _ hs3).mono ?_; rintro e w1 ⟨pw, cw, rfl, how, hb1⟩; have hs1 := hs3.below hb1; have HSW := hid (own_slat how); have hz1 := hb1.size; have HA1 := hid (HST3.out.1.below hb1); have HC1 := hid (HST3.out.2.1.below hb1); have HZ1 := hid (HST3.out.2.2.below hb1); have HPW := hid (own_lt how); have hbw1 := hb3.trans (hb1.mono (by omega)); obtain ⟨⟨ap0, ap1, ap2, ap3, ap4, ap5, ap6⟩, afp, alp⟩ := HA1.out.facts; dsimp only at ap0 ap1 ap2 ap3 ap4 ap5 ap6; obtain ⟨⟨cp0, cp1, cp2, cp3⟩, clp⟩ := HC1.out.facts; dsimp only at cp0 cp1 cp2 cp3; obtain ⟨⟨zp0, zp1, zp2, zp3, zp4, zp5, zp6⟩, zfp, zlp⟩ := HZ1.out.facts)
    | (go_at_call 55; refine (HK.out _ (hs1.alloc _)).mono ?_; rintro e w2 ⟨rfl, hb2⟩; have hs2 := (hs1.alloc _).below hb2; have HSW2 := hid ((HSW.out.alloc _).below hb2); have hz2 := hb2.size; simp only [World.size_alloc] at hz2; have HA2 := hid ((HA1.out.alloc _).below hb2); have HC2 := hid ((HC1.out.alloc _).below hb2); have HZ2 := hid ((HZ1.out.alloc _).below hb2); have HW2 := hid ((ceblk_new w1 ⟨kind, n, owner, need, came, turns, there⟩ pw cw).below hb2); have hbw2 := (hbw1.alloc (by omega) _).trans (hb2.mono (by simp; omega)); obtain ⟨⟨aq0, aq1, aq2, aq3, aq4, aq5, aq6⟩, afq, alq⟩ := HA2.out.facts; dsimp only at aq0 aq1 aq2 aq3 aq4 aq5 aq6; obtain ⟨⟨cq0, cq1, cq2, cq3⟩, clq⟩ := HC2.out.facts; dsimp only at cq0 cq1 cq2 cq3; obtain ⟨⟨zq0, zq1, zq2, zq3, zq4, zq5, zq6⟩, zfq, zlq⟩ := HZ2.out.facts; obtain ⟨⟨wq0, wq1, wq2, wq3, wq4, wq5, wq6⟩, wfq, wlq⟩ := HW2.out.facts; dsimp only at wq0 wq1 wq2 wq3 wq4 wq5 wq6)
    | (go_at_call 63; refine (HIW.out _).mono ?_; rintro e w8 ⟨rfl, rfl⟩))
  have HNE : Hid (∀ q, pw = some q → q.block ≠ w.heap.size + 1 + 1) := fun q hq e => by have := own_ge how q.block (by subst hq; rfl); omega
  exact bodyPost_ret (v := .tuple #[(Ce.mk kind n owner need came turns there).val pw cw, i64 0, i64 1]) (by simp [results, Try.results69, go_sem, Ce.val, wq0, wq1, wq2, wq3, wq4, wq5, wq6, zq0, zq1, zq2, zq3, zq4, zq5, zq6]) rfl (by
    rw [HP.out]
    refine ⟨pw, cw, rfl, ?_, fun q hq => ⟨by have := own_ge how q.block (by subst hq; rfl); omega, by have h2 := HPW.out q.block (by subst hq; rfl); simp; omega⟩, ?_⟩
    · repeat (refine SlAt.set ?_ _ _ _ HNE.out)
      exact HSW2.out
    · repeat (refine Below.setCell ?_ (by simp; omega) _)
      exact hbw2)

set_option maxHeartbeats 4000000 in
theorem one_1 (x : Ce) (p : Option Addr) (c : Nat) (wk : Int) (a : Ac) (w : World) (hsl : SlAt w p c x.came) (hm : x.came.length ≤ 17592186043904) (hk : x.kind = 1) (hok : okP x = true) (hw : isW wk = true) :
    Calls Try.prog 69 #[x.val p c, i64 wk, a.val] w (CeTellL (oneP x wk a).1 [i64 (oneP x wk a).2.1, i64 (oneP x wk a).2.2] w) := by
  obtain ⟨kind, n, owner, need, came, turns, there⟩ := x
  dsimp only at hk
  subst hk
  obtain ⟨ak, ac, ao, an⟩ := a
  dsimp only at hsl hm
  unfold Ce.val Ac.val
  dsimp only
  have HC := hid (fun w1 (h : SlAt w1 p c came) =>
    show Calls Try.prog 56 #[.agg #[i64 1, i64 n, i64 owner, i64 need, .slice p came.length c, i64 turns, .bool there]] w1 (fun e w' => ∃ pw cw, e = .returned (.agg #[i64 1, i64 n, i64 owner, i64 need, .slice pw came.length cw, i64 turns, .bool there]) ∧ w'.ownsRow w1.heap.size 3 1 (.slice pw came.length cw) came.length (i64s came) ∧ Below w1.heap.size w1 w') from copied_any ⟨1, n, owner, need, came, turns, there⟩ p c w1 hm h)
  have HK := hid (fun w1 (h : SlAt w1 p c came) => check_any ⟨1, n, owner, need, came, turns, there⟩ p c w1 h hm)
  unfold Ce.val at HK
  dsimp only at HK
  obtain ⟨W3, hW3⟩ : ∃ W3, W3 = ((w.alloc (.cells #[i64 1, i64 n, i64 owner, i64 need, .slice p came.length c, i64 turns, .bool there] 74)).alloc (.cells #[i64 ak, i64 ac, i64 ao, i64 an] 88)).alloc (.cells #[.int .i64 0, .int .i64 0, .int .i64 0, .int .i64 0, .slice none 0 0, .int .i64 0, .bool false] 74) := ⟨_, rfl⟩
  have HST3 := hid (one_start w ⟨1, n, owner, need, came, turns, there⟩ p c ⟨ak, ac, ao, an⟩ W3 hW3)
  have hs3 : SlAt W3 p c came := by rw [hW3]; exact ((hsl.alloc _).alloc _).alloc _
  have hb3 : Below w.heap.size w W3 := by rw [hW3]; exact (((Below.refl _ _).alloc (Nat.le_refl _) _).alloc (by simp) _).alloc (by simp; omega) _
  have hz3 : w.heap.size + 3 = W3.heap.size := by rw [hW3]; simp
  have HW3 := hid hW3
  have HZ3 := hid hz3
  have hz3 : w.heap.size + 3 ≤ W3.heap.size := by omega
  clear hW3 HZ3
  have HSTEP := hid (fun (w3 w2 : World) (px : Option Addr) (cx : Nat) (ho : w3.ownsRow w2.heap.size 3 1 (.slice px came.length cx) came.length (i64s came)) (hw : w2.heap.size ≤ w3.heap.size) =>
    show Calls Try.prog 83 #[.pointer (some ⟨w3.heap.size, 0, none⟩), .agg #[i64 ak, i64 ac, i64 ao, i64 an]] (w3.alloc (.cells #[i64 1, i64 n, i64 owner, i64 need, .slice px came.length cx, i64 turns, .bool there] 74)) (fun e w' => e = .returned (.tuple #[i64 (stepP ⟨1, n, owner, need, came, turns, there⟩ wk ⟨ak, ac, ao, an⟩).2.1, i64 (stepP ⟨1, n, owner, need, came, turns, there⟩ wk ⟨ak, ac, ao, an⟩).2.2]) ∧ (∃ p c, CeBlk w' w3.heap.size (stepP ⟨1, n, owner, need, came, turns, there⟩ wk ⟨ak, ac, ao, an⟩).1 p c ∧ SlAt w' p c (stepP ⟨1, n, owner, need, came, turns, there⟩ wk ⟨ak, ac, ao, an⟩).1.came ∧ ∀ q, p = some q → w2.heap.size ≤ q.block ∧ q.block < w'.heap.size) ∧ Below w2.heap.size (w3.alloc (.cells #[i64 1, i64 n, i64 owner, i64 need, .slice px came.length cx, i64 turns, .bool there] 74)) w') from (number_any ⟨1, n, owner, need, came, turns, there⟩ rfl wk ⟨ak, ac, ao, an⟩ w3.heap.size px cx _ (ceblk_new w3 ⟨1, n, owner, need, came, turns, there⟩ px cx) ((own_slat ho).alloc _) (fun q hq e => by have := own_lt ho q.block (by subst hq; rfl); omega)).mono (fun e w' h => h.toB (fun q hq => ⟨own_ge ho q.block (by subst hq; rfl), by have := own_lt ho q.block (by subst hq; rfl); simp; omega⟩) hw (by simp; omega)))
  have hck : ckP ⟨1, n, owner, need, came, turns, there⟩ = 0 := by simp [ckP, hok]
  have HIW := hid (isW_any wk)
  have HP0 : Hid (oneP ⟨1, n, owner, need, came, turns, there⟩ wk ⟨ak, ac, ao, an⟩ = stepP ⟨1, n, owner, need, came, turns, there⟩ wk ⟨ak, ac, ao, an⟩) := by simp [Hid, oneP, hok, hw]
  rw [hck] at HK
  rw [hw] at HIW
  have HERR := hid (stepP_err ⟨1, n, owner, need, came, turns, there⟩ wk ⟨ak, ac, ao, an⟩)
  obtain ⟨R, hR⟩ : ∃ R, R = stepP ⟨1, n, owner, need, came, turns, there⟩ wk ⟨ak, ac, ao, an⟩ := ⟨_, rfl⟩
  rw [← hR] at HSTEP HP0 HERR
  clear hok hck hw hR
  obtain ⟨X4, V, E⟩ := R
  dsimp only at HSTEP HERR
  by_cases hE : E = 0
  · subst hE
    have HP := HP0
    clear HERR HP0
    go_enter Try.func69, Try.ntmps69
    go_wp2_with (first
      | (go_at_call 56; first
        | (refine (HC.out _ hs2).mono ?_; rintro e w3 ⟨px, cx, rfl, hox, hb3'⟩; have HOX := hid hox; have HSW3 := hid (HSW2.out.below hb3'); have hz3' := hb3'.size; have HA3 := hid (HA2.out.below hb3'); have HC3 := hid (HC2.out.below hb3'); have HZ3 := hid (HZ2.out.below hb3'); have HW3' := hid (HW2.out.below hb3'); have HPX := hid (fun q (hq : px = some q) => own_lt hox q.block (by subst hq; rfl)); have hbw3 := hbw2.trans (hb3'.mono (by omega)); obtain ⟨⟨ar0, ar1, ar2, ar3, ar4, ar5, ar6⟩, afr, alr⟩ := HA3.out.facts; dsimp only at ar0 ar1 ar2 ar3 ar4 ar5 ar6; obtain ⟨⟨cr0, cr1, cr2, cr3⟩, clr⟩ := HC3.out.facts; dsimp only at cr0 cr1 cr2 cr3; obtain ⟨⟨zr0, zr1, zr2, zr3, zr4, zr5, zr6⟩, zfr, zlr⟩ := HZ3.out.facts; obtain ⟨⟨wr0, wr1, wr2, wr3, wr4, wr5, wr6⟩, wfr, wlr⟩ := HW3'.out.facts; dsimp only at wr0 wr1 wr2 wr3 wr4 wr5 wr6)
        | (rw [← HW3.out]; refine (HC.out _ hs3).mono ?_; rintro e w1 ⟨pw, cw, rfl, how, hb1⟩; have hs1 := hs3.below hb1; have HSW := hid (own_slat how); have hz1 := hb1.size; have HA1 := hid (HST3.out.1.below hb1); have HC1 := hid (HST3.out.2.1.below hb1); have HZ1 := hid (HST3.out.2.2.below hb1); have HPW := hid (own_lt how); have hbw1 := hb3.trans (hb1.mono (by omega)); obtain ⟨⟨ap0, ap1, ap2, ap3, ap4, ap5, ap6⟩, afp, alp⟩ := HA1.out.facts; dsimp only at ap0 ap1 ap2 ap3 ap4 ap5 ap6; obtain ⟨⟨cp0, cp1, cp2, cp3⟩, clp⟩ := HC1.out.facts; dsimp only at cp0 cp1 cp2 cp3; obtain ⟨⟨zp0, zp1, zp2, zp3, zp4, zp5, zp6⟩, zfp, zlp⟩ := HZ1.out.facts))
      | (go_at_call 55; refine (HK.out _ (hs1.alloc _)).mono ?_; rintro e w2 ⟨rfl, hb2⟩; have hs2 := (hs1.alloc _).below hb2; have HSW2 := hid ((HSW.out.alloc _).below hb2); have hz2 := hb2.size; simp only [World.size_alloc] at hz2; have HA2 := hid ((HA1.out.alloc _).below hb2); have HC2 := hid ((HC1.out.alloc _).below hb2); have HZ2 := hid ((HZ1.out.alloc _).below hb2); have HW2 := hid ((ceblk_new w1 ⟨1, n, owner, need, came, turns, there⟩ pw cw).below hb2); have hbw2 := (hbw1.alloc (by omega) _).trans (hb2.mono (by simp; omega)); obtain ⟨⟨aq0, aq1, aq2, aq3, aq4, aq5, aq6⟩, afq, alq⟩ := HA2.out.facts; dsimp only at aq0 aq1 aq2 aq3 aq4 aq5 aq6; obtain ⟨⟨cq0, cq1, cq2, cq3⟩, clq⟩ := HC2.out.facts; dsimp only at cq0 cq1 cq2 cq3; obtain ⟨⟨zq0, zq1, zq2, zq3, zq4, zq5, zq6⟩, zfq, zlq⟩ := HZ2.out.facts; obtain ⟨⟨wq0, wq1, wq2, wq3, wq4, wq5, wq6⟩, wfq, wlq⟩ := HW2.out.facts; dsimp only at wq0 wq1 wq2 wq3 wq4 wq5 wq6)
      | (go_at_call 63; refine (HIW.out _).mono ?_; rintro e w8 ⟨rfl, rfl⟩)
      | (go_at_call 83; refine (HSTEP.out w3 w2 px cx HOX.out (by omega)).mono ?_; rintro e w4 ⟨rfl, ⟨p4, c4, hk4, hs4, hge4⟩, hb4⟩; have HK4 := hid hk4; have HSW4 := hid ((HSW3.out.alloc _).belowB hb4 (fun q hq => by have := HPW.out q.block (by subst hq; rfl); omega)); have HZ4 := hid ((HZ3.out.alloc _).belowB hb4 (by omega)); have HW4 := hid ((HW3'.out.alloc _).belowB hb4 (by omega)); have hbw4 := (hbw3.alloc (by omega) _).trans (hb4.mono (by omega)); obtain ⟨⟨z40, z41, z42, z43, z44, z45, z46⟩, zf4, zl4⟩ := HZ4.out.facts; obtain ⟨⟨w40, w41, w42, w43, w44, w45, w46⟩, wf4, wl4⟩ := HW4.out.facts; dsimp only at w40 w41 w42 w43 w44 w45 w46; obtain ⟨⟨x40, x41, x42, x43, x44, x45, x46⟩, xf4, xl4⟩ := HK4.out.facts))
    have HNE : Hid (∀ q, p4 = some q → q.block ≠ w.heap.size + 1 + 1) := fun q hq e => by have := (hge4 q hq).1; omega
    exact bodyPost_ret (v := .tuple #[(X4).val p4 c4, i64 V, i64 0]) (by simp [results, Try.results69, go_sem, Ce.val, x40, x41, x42, x43, x44, x45, x46, z40, z41, z42, z43, z44, z45, z46]) rfl (by
      rw [HP.out]
      refine ⟨p4, c4, rfl, ?_, fun q hq => ⟨by have := (hge4 q hq).1; omega, by have := (hge4 q hq).2; simp; omega⟩, ?_⟩
      · repeat (refine SlAt.set ?_ _ _ _ HNE.out)
        exact hs4
      · repeat (refine Below.setCell ?_ (by simp; omega) _)
        exact hbw4)
  · obtain ⟨hX, hV⟩ := HERR.out hE
    subst hX hV
    have HP := HP0
    have hne : (E != 0) = true := by simpa using hE
    clear HERR HP0 hE
    go_enter Try.func69, Try.ntmps69
    go_wp2_with (first
      | (go_at_call 56; first
        | (refine (HC.out _ hs2).mono ?_; rintro e w3 ⟨px, cx, rfl, hox, hb3'⟩; have HOX := hid hox; have HSW3 := hid (HSW2.out.below hb3'); have hz3' := hb3'.size; have HA3 := hid (HA2.out.below hb3'); have HC3 := hid (HC2.out.below hb3'); have HZ3 := hid (HZ2.out.below hb3'); have HW3' := hid (HW2.out.below hb3'); have HPX := hid (fun q (hq : px = some q) => own_lt hox q.block (by subst hq; rfl)); have hbw3 := hbw2.trans (hb3'.mono (by omega)); obtain ⟨⟨ar0, ar1, ar2, ar3, ar4, ar5, ar6⟩, afr, alr⟩ := HA3.out.facts; dsimp only at ar0 ar1 ar2 ar3 ar4 ar5 ar6; obtain ⟨⟨cr0, cr1, cr2, cr3⟩, clr⟩ := HC3.out.facts; dsimp only at cr0 cr1 cr2 cr3; obtain ⟨⟨zr0, zr1, zr2, zr3, zr4, zr5, zr6⟩, zfr, zlr⟩ := HZ3.out.facts; obtain ⟨⟨wr0, wr1, wr2, wr3, wr4, wr5, wr6⟩, wfr, wlr⟩ := HW3'.out.facts; dsimp only at wr0 wr1 wr2 wr3 wr4 wr5 wr6)
        | (rw [← HW3.out]; refine (HC.out _ hs3).mono ?_; rintro e w1 ⟨pw, cw, rfl, how, hb1⟩; have hs1 := hs3.below hb1; have HSW := hid (own_slat how); have hz1 := hb1.size; have HA1 := hid (HST3.out.1.below hb1); have HC1 := hid (HST3.out.2.1.below hb1); have HZ1 := hid (HST3.out.2.2.below hb1); have HPW := hid (own_lt how); have hbw1 := hb3.trans (hb1.mono (by omega)); obtain ⟨⟨ap0, ap1, ap2, ap3, ap4, ap5, ap6⟩, afp, alp⟩ := HA1.out.facts; dsimp only at ap0 ap1 ap2 ap3 ap4 ap5 ap6; obtain ⟨⟨cp0, cp1, cp2, cp3⟩, clp⟩ := HC1.out.facts; dsimp only at cp0 cp1 cp2 cp3; obtain ⟨⟨zp0, zp1, zp2, zp3, zp4, zp5, zp6⟩, zfp, zlp⟩ := HZ1.out.facts))
      | (go_at_call 55; refine (HK.out _ (hs1.alloc _)).mono ?_; rintro e w2 ⟨rfl, hb2⟩; have hs2 := (hs1.alloc _).below hb2; have HSW2 := hid ((HSW.out.alloc _).below hb2); have hz2 := hb2.size; simp only [World.size_alloc] at hz2; have HA2 := hid ((HA1.out.alloc _).below hb2); have HC2 := hid ((HC1.out.alloc _).below hb2); have HZ2 := hid ((HZ1.out.alloc _).below hb2); have HW2 := hid ((ceblk_new w1 ⟨1, n, owner, need, came, turns, there⟩ pw cw).below hb2); have hbw2 := (hbw1.alloc (by omega) _).trans (hb2.mono (by simp; omega)); obtain ⟨⟨aq0, aq1, aq2, aq3, aq4, aq5, aq6⟩, afq, alq⟩ := HA2.out.facts; dsimp only at aq0 aq1 aq2 aq3 aq4 aq5 aq6; obtain ⟨⟨cq0, cq1, cq2, cq3⟩, clq⟩ := HC2.out.facts; dsimp only at cq0 cq1 cq2 cq3; obtain ⟨⟨zq0, zq1, zq2, zq3, zq4, zq5, zq6⟩, zfq, zlq⟩ := HZ2.out.facts; obtain ⟨⟨wq0, wq1, wq2, wq3, wq4, wq5, wq6⟩, wfq, wlq⟩ := HW2.out.facts; dsimp only at wq0 wq1 wq2 wq3 wq4 wq5 wq6)
      | (go_at_call 63; refine (HIW.out _).mono ?_; rintro e w8 ⟨rfl, rfl⟩)
      | (go_at_call 83; refine (HSTEP.out w3 w2 px cx HOX.out (by omega)).mono ?_; rintro e w4 ⟨rfl, ⟨p4, c4, hk4, hs4, hge4⟩, hb4⟩; have HK4 := hid hk4; have HSW4 := hid ((HSW3.out.alloc _).belowB hb4 (fun q hq => by have := HPW.out q.block (by subst hq; rfl); omega)); have HZ4 := hid ((HZ3.out.alloc _).belowB hb4 (by omega)); have HW4 := hid ((HW3'.out.alloc _).belowB hb4 (by omega)); have hbw4 := (hbw3.alloc (by omega) _).trans (hb4.mono (by omega)); obtain ⟨⟨z40, z41, z42, z43, z44, z45, z46⟩, zf4, zl4⟩ := HZ4.out.facts; obtain ⟨⟨w40, w41, w42, w43, w44, w45, w46⟩, wf4, wl4⟩ := HW4.out.facts; dsimp only at w40 w41 w42 w43 w44 w45 w46; obtain ⟨⟨x40, x41, x42, x43, x44, x45, x46⟩, xf4, xl4⟩ := HK4.out.facts))
    have HNE : Hid (∀ q, pw = some q → q.block ≠ w.heap.size + 1 + 1) := fun q hq e => by have := own_ge how q.block (by subst hq; rfl); omega
    exact bodyPost_ret (v := .tuple #[(Ce.mk 1 n owner need came turns there).val pw cw, i64 0, i64 E]) (by simp [results, Try.results69, go_sem, Ce.val, w40, w41, w42, w43, w44, w45, w46, z40, z41, z42, z43, z44, z45, z46]) rfl (by
      rw [HP.out]
      refine ⟨pw, cw, rfl, ?_, fun q hq => ⟨by have := own_ge how q.block (by subst hq; rfl); omega, by have h2 := HPW.out q.block (by subst hq; rfl); have h4 := hb4.size; simp at h4; simp; omega⟩, ?_⟩
      · repeat (refine SlAt.set ?_ _ _ _ HNE.out)
        exact HSW4.out
      · repeat (refine Below.setCell ?_ (by simp; omega) _)
        exact hbw4)

set_option maxHeartbeats 4000000 in
theorem one_2 (x : Ce) (p : Option Addr) (c : Nat) (wk : Int) (a : Ac) (w : World) (hsl : SlAt w p c x.came) (hm : x.came.length ≤ 17592186043904) (hk : x.kind = 2) (hok : okP x = true) (hw : isW wk = true) :
    Calls Try.prog 69 #[x.val p c, i64 wk, a.val] w (CeTellL (oneP x wk a).1 [i64 (oneP x wk a).2.1, i64 (oneP x wk a).2.2] w) := by
  obtain ⟨kind, n, owner, need, came, turns, there⟩ := x
  dsimp only at hk
  subst hk
  obtain ⟨ak, ac, ao, an⟩ := a
  dsimp only at hsl hm
  unfold Ce.val Ac.val
  dsimp only
  have HC := hid (fun w1 (h : SlAt w1 p c came) =>
    show Calls Try.prog 56 #[.agg #[i64 2, i64 n, i64 owner, i64 need, .slice p came.length c, i64 turns, .bool there]] w1 (fun e w' => ∃ pw cw, e = .returned (.agg #[i64 2, i64 n, i64 owner, i64 need, .slice pw came.length cw, i64 turns, .bool there]) ∧ w'.ownsRow w1.heap.size 3 1 (.slice pw came.length cw) came.length (i64s came) ∧ Below w1.heap.size w1 w') from copied_any ⟨2, n, owner, need, came, turns, there⟩ p c w1 hm h)
  have HK := hid (fun w1 (h : SlAt w1 p c came) => check_any ⟨2, n, owner, need, came, turns, there⟩ p c w1 h hm)
  unfold Ce.val at HK
  dsimp only at HK
  obtain ⟨W3, hW3⟩ : ∃ W3, W3 = ((w.alloc (.cells #[i64 2, i64 n, i64 owner, i64 need, .slice p came.length c, i64 turns, .bool there] 74)).alloc (.cells #[i64 ak, i64 ac, i64 ao, i64 an] 88)).alloc (.cells #[.int .i64 0, .int .i64 0, .int .i64 0, .int .i64 0, .slice none 0 0, .int .i64 0, .bool false] 74) := ⟨_, rfl⟩
  have HST3 := hid (one_start w ⟨2, n, owner, need, came, turns, there⟩ p c ⟨ak, ac, ao, an⟩ W3 hW3)
  have hs3 : SlAt W3 p c came := by rw [hW3]; exact ((hsl.alloc _).alloc _).alloc _
  have hb3 : Below w.heap.size w W3 := by rw [hW3]; exact (((Below.refl _ _).alloc (Nat.le_refl _) _).alloc (by simp) _).alloc (by simp; omega) _
  have hz3 : w.heap.size + 3 = W3.heap.size := by rw [hW3]; simp
  have HW3 := hid hW3
  have HZ3 := hid hz3
  have hz3 : w.heap.size + 3 ≤ W3.heap.size := by omega
  clear hW3 HZ3
  have HSTEP := hid (fun (w3 w2 : World) (px : Option Addr) (cx : Nat) (ho : w3.ownsRow w2.heap.size 3 1 (.slice px came.length cx) came.length (i64s came)) (hw : w2.heap.size ≤ w3.heap.size) =>
    show Calls Try.prog 84 #[.pointer (some ⟨w3.heap.size, 0, none⟩), i64 wk, .agg #[i64 ak, i64 ac, i64 ao, i64 an]] (w3.alloc (.cells #[i64 2, i64 n, i64 owner, i64 need, .slice px came.length cx, i64 turns, .bool there] 74)) (fun e w' => e = .returned (.tuple #[i64 (stepP ⟨2, n, owner, need, came, turns, there⟩ wk ⟨ak, ac, ao, an⟩).2.1, i64 (stepP ⟨2, n, owner, need, came, turns, there⟩ wk ⟨ak, ac, ao, an⟩).2.2]) ∧ (∃ p c, CeBlk w' w3.heap.size (stepP ⟨2, n, owner, need, came, turns, there⟩ wk ⟨ak, ac, ao, an⟩).1 p c ∧ SlAt w' p c (stepP ⟨2, n, owner, need, came, turns, there⟩ wk ⟨ak, ac, ao, an⟩).1.came ∧ ∀ q, p = some q → w2.heap.size ≤ q.block ∧ q.block < w'.heap.size) ∧ Below w2.heap.size (w3.alloc (.cells #[i64 2, i64 n, i64 owner, i64 need, .slice px came.length cx, i64 turns, .bool there] 74)) w') from (lock_any ⟨2, n, owner, need, came, turns, there⟩ rfl wk ⟨ak, ac, ao, an⟩ w3.heap.size px cx _ (ceblk_new w3 ⟨2, n, owner, need, came, turns, there⟩ px cx) ((own_slat ho).alloc _) (fun q hq e => by have := own_lt ho q.block (by subst hq; rfl); omega)).mono (fun e w' h => h.toB (fun q hq => ⟨own_ge ho q.block (by subst hq; rfl), by have := own_lt ho q.block (by subst hq; rfl); simp; omega⟩) hw (by simp; omega)))
  have hck : ckP ⟨2, n, owner, need, came, turns, there⟩ = 0 := by simp [ckP, hok]
  have HIW := hid (isW_any wk)
  have HP0 : Hid (oneP ⟨2, n, owner, need, came, turns, there⟩ wk ⟨ak, ac, ao, an⟩ = stepP ⟨2, n, owner, need, came, turns, there⟩ wk ⟨ak, ac, ao, an⟩) := by simp [Hid, oneP, hok, hw]
  rw [hck] at HK
  rw [hw] at HIW
  have HERR := hid (stepP_err ⟨2, n, owner, need, came, turns, there⟩ wk ⟨ak, ac, ao, an⟩)
  obtain ⟨R, hR⟩ : ∃ R, R = stepP ⟨2, n, owner, need, came, turns, there⟩ wk ⟨ak, ac, ao, an⟩ := ⟨_, rfl⟩
  rw [← hR] at HSTEP HP0 HERR
  clear hok hck hw hR
  obtain ⟨X4, V, E⟩ := R
  dsimp only at HSTEP HERR
  by_cases hE : E = 0
  · subst hE
    have HP := HP0
    clear HERR HP0
    go_enter Try.func69, Try.ntmps69
    go_wp2_with (first
      | (go_at_call 56; first
        | (refine (HC.out _ hs2).mono ?_; rintro e w3 ⟨px, cx, rfl, hox, hb3'⟩; have HOX := hid hox; have HSW3 := hid (HSW2.out.below hb3'); have hz3' := hb3'.size; have HA3 := hid (HA2.out.below hb3'); have HC3 := hid (HC2.out.below hb3'); have HZ3 := hid (HZ2.out.below hb3'); have HW3' := hid (HW2.out.below hb3'); have HPX := hid (fun q (hq : px = some q) => own_lt hox q.block (by subst hq; rfl)); have hbw3 := hbw2.trans (hb3'.mono (by omega)); obtain ⟨⟨ar0, ar1, ar2, ar3, ar4, ar5, ar6⟩, afr, alr⟩ := HA3.out.facts; dsimp only at ar0 ar1 ar2 ar3 ar4 ar5 ar6; obtain ⟨⟨cr0, cr1, cr2, cr3⟩, clr⟩ := HC3.out.facts; dsimp only at cr0 cr1 cr2 cr3; obtain ⟨⟨zr0, zr1, zr2, zr3, zr4, zr5, zr6⟩, zfr, zlr⟩ := HZ3.out.facts; obtain ⟨⟨wr0, wr1, wr2, wr3, wr4, wr5, wr6⟩, wfr, wlr⟩ := HW3'.out.facts; dsimp only at wr0 wr1 wr2 wr3 wr4 wr5 wr6)
        | (rw [← HW3.out]; refine (HC.out _ hs3).mono ?_; rintro e w1 ⟨pw, cw, rfl, how, hb1⟩; have hs1 := hs3.below hb1; have HSW := hid (own_slat how); have hz1 := hb1.size; have HA1 := hid (HST3.out.1.below hb1); have HC1 := hid (HST3.out.2.1.below hb1); have HZ1 := hid (HST3.out.2.2.below hb1); have HPW := hid (own_lt how); have hbw1 := hb3.trans (hb1.mono (by omega)); obtain ⟨⟨ap0, ap1, ap2, ap3, ap4, ap5, ap6⟩, afp, alp⟩ := HA1.out.facts; dsimp only at ap0 ap1 ap2 ap3 ap4 ap5 ap6; obtain ⟨⟨cp0, cp1, cp2, cp3⟩, clp⟩ := HC1.out.facts; dsimp only at cp0 cp1 cp2 cp3; obtain ⟨⟨zp0, zp1, zp2, zp3, zp4, zp5, zp6⟩, zfp, zlp⟩ := HZ1.out.facts))
      | (go_at_call 55; refine (HK.out _ (hs1.alloc _)).mono ?_; rintro e w2 ⟨rfl, hb2⟩; have hs2 := (hs1.alloc _).below hb2; have HSW2 := hid ((HSW.out.alloc _).below hb2); have hz2 := hb2.size; simp only [World.size_alloc] at hz2; have HA2 := hid ((HA1.out.alloc _).below hb2); have HC2 := hid ((HC1.out.alloc _).below hb2); have HZ2 := hid ((HZ1.out.alloc _).below hb2); have HW2 := hid ((ceblk_new w1 ⟨2, n, owner, need, came, turns, there⟩ pw cw).below hb2); have hbw2 := (hbw1.alloc (by omega) _).trans (hb2.mono (by simp; omega)); obtain ⟨⟨aq0, aq1, aq2, aq3, aq4, aq5, aq6⟩, afq, alq⟩ := HA2.out.facts; dsimp only at aq0 aq1 aq2 aq3 aq4 aq5 aq6; obtain ⟨⟨cq0, cq1, cq2, cq3⟩, clq⟩ := HC2.out.facts; dsimp only at cq0 cq1 cq2 cq3; obtain ⟨⟨zq0, zq1, zq2, zq3, zq4, zq5, zq6⟩, zfq, zlq⟩ := HZ2.out.facts; obtain ⟨⟨wq0, wq1, wq2, wq3, wq4, wq5, wq6⟩, wfq, wlq⟩ := HW2.out.facts; dsimp only at wq0 wq1 wq2 wq3 wq4 wq5 wq6)
      | (go_at_call 63; refine (HIW.out _).mono ?_; rintro e w8 ⟨rfl, rfl⟩)
      | (go_at_call 84; refine (HSTEP.out w3 w2 px cx HOX.out (by omega)).mono ?_; rintro e w4 ⟨rfl, ⟨p4, c4, hk4, hs4, hge4⟩, hb4⟩; have HK4 := hid hk4; have HSW4 := hid ((HSW3.out.alloc _).belowB hb4 (fun q hq => by have := HPW.out q.block (by subst hq; rfl); omega)); have HZ4 := hid ((HZ3.out.alloc _).belowB hb4 (by omega)); have HW4 := hid ((HW3'.out.alloc _).belowB hb4 (by omega)); have hbw4 := (hbw3.alloc (by omega) _).trans (hb4.mono (by omega)); obtain ⟨⟨z40, z41, z42, z43, z44, z45, z46⟩, zf4, zl4⟩ := HZ4.out.facts; obtain ⟨⟨w40, w41, w42, w43, w44, w45, w46⟩, wf4, wl4⟩ := HW4.out.facts; dsimp only at w40 w41 w42 w43 w44 w45 w46; obtain ⟨⟨x40, x41, x42, x43, x44, x45, x46⟩, xf4, xl4⟩ := HK4.out.facts))
    have HNE : Hid (∀ q, p4 = some q → q.block ≠ w.heap.size + 1 + 1) := fun q hq e => by have := (hge4 q hq).1; omega
    exact bodyPost_ret (v := .tuple #[(X4).val p4 c4, i64 V, i64 0]) (by simp [results, Try.results69, go_sem, Ce.val, x40, x41, x42, x43, x44, x45, x46, z40, z41, z42, z43, z44, z45, z46]) rfl (by
      rw [HP.out]
      refine ⟨p4, c4, rfl, ?_, fun q hq => ⟨by have := (hge4 q hq).1; omega, by have := (hge4 q hq).2; simp; omega⟩, ?_⟩
      · repeat (refine SlAt.set ?_ _ _ _ HNE.out)
        exact hs4
      · repeat (refine Below.setCell ?_ (by simp; omega) _)
        exact hbw4)
  · obtain ⟨hX, hV⟩ := HERR.out hE
    subst hX hV
    have HP := HP0
    have hne : (E != 0) = true := by simpa using hE
    clear HERR HP0 hE
    go_enter Try.func69, Try.ntmps69
    go_wp2_with (first
      | (go_at_call 56; first
        | (refine (HC.out _ hs2).mono ?_; rintro e w3 ⟨px, cx, rfl, hox, hb3'⟩; have HOX := hid hox; have HSW3 := hid (HSW2.out.below hb3'); have hz3' := hb3'.size; have HA3 := hid (HA2.out.below hb3'); have HC3 := hid (HC2.out.below hb3'); have HZ3 := hid (HZ2.out.below hb3'); have HW3' := hid (HW2.out.below hb3'); have HPX := hid (fun q (hq : px = some q) => own_lt hox q.block (by subst hq; rfl)); have hbw3 := hbw2.trans (hb3'.mono (by omega)); obtain ⟨⟨ar0, ar1, ar2, ar3, ar4, ar5, ar6⟩, afr, alr⟩ := HA3.out.facts; dsimp only at ar0 ar1 ar2 ar3 ar4 ar5 ar6; obtain ⟨⟨cr0, cr1, cr2, cr3⟩, clr⟩ := HC3.out.facts; dsimp only at cr0 cr1 cr2 cr3; obtain ⟨⟨zr0, zr1, zr2, zr3, zr4, zr5, zr6⟩, zfr, zlr⟩ := HZ3.out.facts; obtain ⟨⟨wr0, wr1, wr2, wr3, wr4, wr5, wr6⟩, wfr, wlr⟩ := HW3'.out.facts; dsimp only at wr0 wr1 wr2 wr3 wr4 wr5 wr6)
        | (rw [← HW3.out]; refine (HC.out _ hs3).mono ?_; rintro e w1 ⟨pw, cw, rfl, how, hb1⟩; have hs1 := hs3.below hb1; have HSW := hid (own_slat how); have hz1 := hb1.size; have HA1 := hid (HST3.out.1.below hb1); have HC1 := hid (HST3.out.2.1.below hb1); have HZ1 := hid (HST3.out.2.2.below hb1); have HPW := hid (own_lt how); have hbw1 := hb3.trans (hb1.mono (by omega)); obtain ⟨⟨ap0, ap1, ap2, ap3, ap4, ap5, ap6⟩, afp, alp⟩ := HA1.out.facts; dsimp only at ap0 ap1 ap2 ap3 ap4 ap5 ap6; obtain ⟨⟨cp0, cp1, cp2, cp3⟩, clp⟩ := HC1.out.facts; dsimp only at cp0 cp1 cp2 cp3; obtain ⟨⟨zp0, zp1, zp2, zp3, zp4, zp5, zp6⟩, zfp, zlp⟩ := HZ1.out.facts))
      | (go_at_call 55; refine (HK.out _ (hs1.alloc _)).mono ?_; rintro e w2 ⟨rfl, hb2⟩; have hs2 := (hs1.alloc _).below hb2; have HSW2 := hid ((HSW.out.alloc _).below hb2); have hz2 := hb2.size; simp only [World.size_alloc] at hz2; have HA2 := hid ((HA1.out.alloc _).below hb2); have HC2 := hid ((HC1.out.alloc _).below hb2); have HZ2 := hid ((HZ1.out.alloc _).below hb2); have HW2 := hid ((ceblk_new w1 ⟨2, n, owner, need, came, turns, there⟩ pw cw).below hb2); have hbw2 := (hbw1.alloc (by omega) _).trans (hb2.mono (by simp; omega)); obtain ⟨⟨aq0, aq1, aq2, aq3, aq4, aq5, aq6⟩, afq, alq⟩ := HA2.out.facts; dsimp only at aq0 aq1 aq2 aq3 aq4 aq5 aq6; obtain ⟨⟨cq0, cq1, cq2, cq3⟩, clq⟩ := HC2.out.facts; dsimp only at cq0 cq1 cq2 cq3; obtain ⟨⟨zq0, zq1, zq2, zq3, zq4, zq5, zq6⟩, zfq, zlq⟩ := HZ2.out.facts; obtain ⟨⟨wq0, wq1, wq2, wq3, wq4, wq5, wq6⟩, wfq, wlq⟩ := HW2.out.facts; dsimp only at wq0 wq1 wq2 wq3 wq4 wq5 wq6)
      | (go_at_call 63; refine (HIW.out _).mono ?_; rintro e w8 ⟨rfl, rfl⟩)
      | (go_at_call 84; refine (HSTEP.out w3 w2 px cx HOX.out (by omega)).mono ?_; rintro e w4 ⟨rfl, ⟨p4, c4, hk4, hs4, hge4⟩, hb4⟩; have HK4 := hid hk4; have HSW4 := hid ((HSW3.out.alloc _).belowB hb4 (fun q hq => by have := HPW.out q.block (by subst hq; rfl); omega)); have HZ4 := hid ((HZ3.out.alloc _).belowB hb4 (by omega)); have HW4 := hid ((HW3'.out.alloc _).belowB hb4 (by omega)); have hbw4 := (hbw3.alloc (by omega) _).trans (hb4.mono (by omega)); obtain ⟨⟨z40, z41, z42, z43, z44, z45, z46⟩, zf4, zl4⟩ := HZ4.out.facts; obtain ⟨⟨w40, w41, w42, w43, w44, w45, w46⟩, wf4, wl4⟩ := HW4.out.facts; dsimp only at w40 w41 w42 w43 w44 w45 w46; obtain ⟨⟨x40, x41, x42, x43, x44, x45, x46⟩, xf4, xl4⟩ := HK4.out.facts))
    have HNE : Hid (∀ q, pw = some q → q.block ≠ w.heap.size + 1 + 1) := fun q hq e => by have := own_ge how q.block (by subst hq; rfl); omega
    exact bodyPost_ret (v := .tuple #[(Ce.mk 2 n owner need came turns there).val pw cw, i64 0, i64 E]) (by simp [results, Try.results69, go_sem, Ce.val, w40, w41, w42, w43, w44, w45, w46, z40, z41, z42, z43, z44, z45, z46]) rfl (by
      rw [HP.out]
      refine ⟨pw, cw, rfl, ?_, fun q hq => ⟨by have := own_ge how q.block (by subst hq; rfl); omega, by have h2 := HPW.out q.block (by subst hq; rfl); have h4 := hb4.size; simp at h4; simp; omega⟩, ?_⟩
      · repeat (refine SlAt.set ?_ _ _ _ HNE.out)
        exact HSW4.out
      · repeat (refine Below.setCell ?_ (by simp; omega) _)
        exact hbw4)

set_option maxHeartbeats 4000000 in
theorem one_3 (x : Ce) (p : Option Addr) (c : Nat) (wk : Int) (a : Ac) (w : World) (hsl : SlAt w p c x.came) (hm : x.came.length ≤ 17592186043904) (hk : x.kind = 3) (hok : okP x = true) (hw : isW wk = true) :
    Calls Try.prog 69 #[x.val p c, i64 wk, a.val] w (CeTellL (oneP x wk a).1 [i64 (oneP x wk a).2.1, i64 (oneP x wk a).2.2] w) := by
  obtain ⟨kind, n, owner, need, came, turns, there⟩ := x
  dsimp only at hk
  subst hk
  obtain ⟨ak, ac, ao, an⟩ := a
  dsimp only at hsl hm
  unfold Ce.val Ac.val
  dsimp only
  have HC := hid (fun w1 (h : SlAt w1 p c came) =>
    show Calls Try.prog 56 #[.agg #[i64 3, i64 n, i64 owner, i64 need, .slice p came.length c, i64 turns, .bool there]] w1 (fun e w' => ∃ pw cw, e = .returned (.agg #[i64 3, i64 n, i64 owner, i64 need, .slice pw came.length cw, i64 turns, .bool there]) ∧ w'.ownsRow w1.heap.size 3 1 (.slice pw came.length cw) came.length (i64s came) ∧ Below w1.heap.size w1 w') from copied_any ⟨3, n, owner, need, came, turns, there⟩ p c w1 hm h)
  have HK := hid (fun w1 (h : SlAt w1 p c came) => check_any ⟨3, n, owner, need, came, turns, there⟩ p c w1 h hm)
  unfold Ce.val at HK
  dsimp only at HK
  obtain ⟨W3, hW3⟩ : ∃ W3, W3 = ((w.alloc (.cells #[i64 3, i64 n, i64 owner, i64 need, .slice p came.length c, i64 turns, .bool there] 74)).alloc (.cells #[i64 ak, i64 ac, i64 ao, i64 an] 88)).alloc (.cells #[.int .i64 0, .int .i64 0, .int .i64 0, .int .i64 0, .slice none 0 0, .int .i64 0, .bool false] 74) := ⟨_, rfl⟩
  have HST3 := hid (one_start w ⟨3, n, owner, need, came, turns, there⟩ p c ⟨ak, ac, ao, an⟩ W3 hW3)
  have hs3 : SlAt W3 p c came := by rw [hW3]; exact ((hsl.alloc _).alloc _).alloc _
  have hb3 : Below w.heap.size w W3 := by rw [hW3]; exact (((Below.refl _ _).alloc (Nat.le_refl _) _).alloc (by simp) _).alloc (by simp; omega) _
  have hz3 : w.heap.size + 3 = W3.heap.size := by rw [hW3]; simp
  have HW3 := hid hW3
  have HZ3 := hid hz3
  have hz3 : w.heap.size + 3 ≤ W3.heap.size := by omega
  clear hW3 HZ3
  have hgt : 0 ≤ turns ∧ turns ≤ 1152921504606846976 ∧ came.length ≤ 64 := by
    simp [okP, gateP, gateHead] at hok
    omega
  obtain ⟨ht0, ht1, hl64⟩ := hgt
  have HSTEP := hid (fun (w3 w2 : World) (px : Option Addr) (cx : Nat) (ho : w3.ownsRow w2.heap.size 3 1 (.slice px came.length cx) came.length (i64s came)) (hw : w2.heap.size ≤ w3.heap.size) =>
    show Calls Try.prog 85 #[.pointer (some ⟨w3.heap.size, 0, none⟩), i64 wk, .agg #[i64 ak, i64 ac, i64 ao, i64 an]] (w3.alloc (.cells #[i64 3, i64 n, i64 owner, i64 need, .slice px came.length cx, i64 turns, .bool there] 74)) (fun e w' => e = .returned (.tuple #[i64 (stepP ⟨3, n, owner, need, came, turns, there⟩ wk ⟨ak, ac, ao, an⟩).2.1, i64 (stepP ⟨3, n, owner, need, came, turns, there⟩ wk ⟨ak, ac, ao, an⟩).2.2]) ∧ (∃ p c, CeBlk w' w3.heap.size (stepP ⟨3, n, owner, need, came, turns, there⟩ wk ⟨ak, ac, ao, an⟩).1 p c ∧ SlAt w' p c (stepP ⟨3, n, owner, need, came, turns, there⟩ wk ⟨ak, ac, ao, an⟩).1.came ∧ ∀ q, p = some q → w2.heap.size ≤ q.block ∧ q.block < w'.heap.size) ∧ Below w2.heap.size (w3.alloc (.cells #[i64 3, i64 n, i64 owner, i64 need, .slice px came.length cx, i64 turns, .bool there] 74)) w') from barrier_any ⟨3, n, owner, need, came, turns, there⟩ rfl wk ⟨ak, ac, ao, an⟩ w2.heap.size w3.heap.size px cx _ (ceblk_new w3 ⟨3, n, owner, need, came, turns, there⟩ px cx) (ho.alloc _) (fun q hq e => by have := own_lt ho q.block (by subst hq; rfl); omega) hw ht0 ht1 hl64)
  have hck : ckP ⟨3, n, owner, need, came, turns, there⟩ = 0 := by simp [ckP, hok]
  have HIW := hid (isW_any wk)
  have HP0 : Hid (oneP ⟨3, n, owner, need, came, turns, there⟩ wk ⟨ak, ac, ao, an⟩ = stepP ⟨3, n, owner, need, came, turns, there⟩ wk ⟨ak, ac, ao, an⟩) := by simp [Hid, oneP, hok, hw]
  rw [hck] at HK
  rw [hw] at HIW
  have HERR := hid (stepP_err ⟨3, n, owner, need, came, turns, there⟩ wk ⟨ak, ac, ao, an⟩)
  obtain ⟨R, hR⟩ : ∃ R, R = stepP ⟨3, n, owner, need, came, turns, there⟩ wk ⟨ak, ac, ao, an⟩ := ⟨_, rfl⟩
  rw [← hR] at HSTEP HP0 HERR
  clear hok hck hw hR
  obtain ⟨X4, V, E⟩ := R
  dsimp only at HSTEP HERR
  by_cases hE : E = 0
  · subst hE
    have HP := HP0
    clear HERR HP0
    go_enter Try.func69, Try.ntmps69
    go_wp2_with (first
      | (go_at_call 56; first
        | (refine (HC.out _ hs2).mono ?_; rintro e w3 ⟨px, cx, rfl, hox, hb3'⟩; have HOX := hid hox; have HSW3 := hid (HSW2.out.below hb3'); have hz3' := hb3'.size; have HA3 := hid (HA2.out.below hb3'); have HC3 := hid (HC2.out.below hb3'); have HZ3 := hid (HZ2.out.below hb3'); have HW3' := hid (HW2.out.below hb3'); have HPX := hid (fun q (hq : px = some q) => own_lt hox q.block (by subst hq; rfl)); have hbw3 := hbw2.trans (hb3'.mono (by omega)); obtain ⟨⟨ar0, ar1, ar2, ar3, ar4, ar5, ar6⟩, afr, alr⟩ := HA3.out.facts; dsimp only at ar0 ar1 ar2 ar3 ar4 ar5 ar6; obtain ⟨⟨cr0, cr1, cr2, cr3⟩, clr⟩ := HC3.out.facts; dsimp only at cr0 cr1 cr2 cr3; obtain ⟨⟨zr0, zr1, zr2, zr3, zr4, zr5, zr6⟩, zfr, zlr⟩ := HZ3.out.facts; obtain ⟨⟨wr0, wr1, wr2, wr3, wr4, wr5, wr6⟩, wfr, wlr⟩ := HW3'.out.facts; dsimp only at wr0 wr1 wr2 wr3 wr4 wr5 wr6)
        | (rw [← HW3.out]; refine (HC.out _ hs3).mono ?_; rintro e w1 ⟨pw, cw, rfl, how, hb1⟩; have hs1 := hs3.below hb1; have HSW := hid (own_slat how); have hz1 := hb1.size; have HA1 := hid (HST3.out.1.below hb1); have HC1 := hid (HST3.out.2.1.below hb1); have HZ1 := hid (HST3.out.2.2.below hb1); have HPW := hid (own_lt how); have hbw1 := hb3.trans (hb1.mono (by omega)); obtain ⟨⟨ap0, ap1, ap2, ap3, ap4, ap5, ap6⟩, afp, alp⟩ := HA1.out.facts; dsimp only at ap0 ap1 ap2 ap3 ap4 ap5 ap6; obtain ⟨⟨cp0, cp1, cp2, cp3⟩, clp⟩ := HC1.out.facts; dsimp only at cp0 cp1 cp2 cp3; obtain ⟨⟨zp0, zp1, zp2, zp3, zp4, zp5, zp6⟩, zfp, zlp⟩ := HZ1.out.facts))
      | (go_at_call 55; refine (HK.out _ (hs1.alloc _)).mono ?_; rintro e w2 ⟨rfl, hb2⟩; have hs2 := (hs1.alloc _).below hb2; have HSW2 := hid ((HSW.out.alloc _).below hb2); have hz2 := hb2.size; simp only [World.size_alloc] at hz2; have HA2 := hid ((HA1.out.alloc _).below hb2); have HC2 := hid ((HC1.out.alloc _).below hb2); have HZ2 := hid ((HZ1.out.alloc _).below hb2); have HW2 := hid ((ceblk_new w1 ⟨3, n, owner, need, came, turns, there⟩ pw cw).below hb2); have hbw2 := (hbw1.alloc (by omega) _).trans (hb2.mono (by simp; omega)); obtain ⟨⟨aq0, aq1, aq2, aq3, aq4, aq5, aq6⟩, afq, alq⟩ := HA2.out.facts; dsimp only at aq0 aq1 aq2 aq3 aq4 aq5 aq6; obtain ⟨⟨cq0, cq1, cq2, cq3⟩, clq⟩ := HC2.out.facts; dsimp only at cq0 cq1 cq2 cq3; obtain ⟨⟨zq0, zq1, zq2, zq3, zq4, zq5, zq6⟩, zfq, zlq⟩ := HZ2.out.facts; obtain ⟨⟨wq0, wq1, wq2, wq3, wq4, wq5, wq6⟩, wfq, wlq⟩ := HW2.out.facts; dsimp only at wq0 wq1 wq2 wq3 wq4 wq5 wq6)
      | (go_at_call 63; refine (HIW.out _).mono ?_; rintro e w8 ⟨rfl, rfl⟩)
      | (go_at_call 85; refine (HSTEP.out w3 w2 px cx HOX.out (by omega)).mono ?_; rintro e w4 ⟨rfl, ⟨p4, c4, hk4, hs4, hge4⟩, hb4⟩; have HK4 := hid hk4; have HSW4 := hid ((HSW3.out.alloc _).belowB hb4 (fun q hq => by have := HPW.out q.block (by subst hq; rfl); omega)); have HZ4 := hid ((HZ3.out.alloc _).belowB hb4 (by omega)); have HW4 := hid ((HW3'.out.alloc _).belowB hb4 (by omega)); have hbw4 := (hbw3.alloc (by omega) _).trans (hb4.mono (by omega)); obtain ⟨⟨z40, z41, z42, z43, z44, z45, z46⟩, zf4, zl4⟩ := HZ4.out.facts; obtain ⟨⟨w40, w41, w42, w43, w44, w45, w46⟩, wf4, wl4⟩ := HW4.out.facts; dsimp only at w40 w41 w42 w43 w44 w45 w46; obtain ⟨⟨x40, x41, x42, x43, x44, x45, x46⟩, xf4, xl4⟩ := HK4.out.facts))
    have HNE : Hid (∀ q, p4 = some q → q.block ≠ w.heap.size + 1 + 1) := fun q hq e => by have := (hge4 q hq).1; omega
    exact bodyPost_ret (v := .tuple #[(X4).val p4 c4, i64 V, i64 0]) (by simp [results, Try.results69, go_sem, Ce.val, x40, x41, x42, x43, x44, x45, x46, z40, z41, z42, z43, z44, z45, z46]) rfl (by
      rw [HP.out]
      refine ⟨p4, c4, rfl, ?_, fun q hq => ⟨by have := (hge4 q hq).1; omega, by have := (hge4 q hq).2; simp; omega⟩, ?_⟩
      · repeat (refine SlAt.set ?_ _ _ _ HNE.out)
        exact hs4
      · repeat (refine Below.setCell ?_ (by simp; omega) _)
        exact hbw4)
  · obtain ⟨hX, hV⟩ := HERR.out hE
    subst hX hV
    have HP := HP0
    have hne : (E != 0) = true := by simpa using hE
    clear HERR HP0 hE
    go_enter Try.func69, Try.ntmps69
    go_wp2_with (first
      | (go_at_call 56; first
        | (refine (HC.out _ hs2).mono ?_; rintro e w3 ⟨px, cx, rfl, hox, hb3'⟩; have HOX := hid hox; have HSW3 := hid (HSW2.out.below hb3'); have hz3' := hb3'.size; have HA3 := hid (HA2.out.below hb3'); have HC3 := hid (HC2.out.below hb3'); have HZ3 := hid (HZ2.out.below hb3'); have HW3' := hid (HW2.out.below hb3'); have HPX := hid (fun q (hq : px = some q) => own_lt hox q.block (by subst hq; rfl)); have hbw3 := hbw2.trans (hb3'.mono (by omega)); obtain ⟨⟨ar0, ar1, ar2, ar3, ar4, ar5, ar6⟩, afr, alr⟩ := HA3.out.facts; dsimp only at ar0 ar1 ar2 ar3 ar4 ar5 ar6; obtain ⟨⟨cr0, cr1, cr2, cr3⟩, clr⟩ := HC3.out.facts; dsimp only at cr0 cr1 cr2 cr3; obtain ⟨⟨zr0, zr1, zr2, zr3, zr4, zr5, zr6⟩, zfr, zlr⟩ := HZ3.out.facts; obtain ⟨⟨wr0, wr1, wr2, wr3, wr4, wr5, wr6⟩, wfr, wlr⟩ := HW3'.out.facts; dsimp only at wr0 wr1 wr2 wr3 wr4 wr5 wr6)
        | (rw [← HW3.out]; refine (HC.out _ hs3).mono ?_; rintro e w1 ⟨pw, cw, rfl, how, hb1⟩; have hs1 := hs3.below hb1; have HSW := hid (own_slat how); have hz1 := hb1.size; have HA1 := hid (HST3.out.1.below hb1); have HC1 := hid (HST3.out.2.1.below hb1); have HZ1 := hid (HST3.out.2.2.below hb1); have HPW := hid (own_lt how); have hbw1 := hb3.trans (hb1.mono (by omega)); obtain ⟨⟨ap0, ap1, ap2, ap3, ap4, ap5, ap6⟩, afp, alp⟩ := HA1.out.facts; dsimp only at ap0 ap1 ap2 ap3 ap4 ap5 ap6; obtain ⟨⟨cp0, cp1, cp2, cp3⟩, clp⟩ := HC1.out.facts; dsimp only at cp0 cp1 cp2 cp3; obtain ⟨⟨zp0, zp1, zp2, zp3, zp4, zp5, zp6⟩, zfp, zlp⟩ := HZ1.out.facts))
      | (go_at_call 55; refine (HK.out _ (hs1.alloc _)).mono ?_; rintro e w2 ⟨rfl, hb2⟩; have hs2 := (hs1.alloc _).below hb2; have HSW2 := hid ((HSW.out.alloc _).below hb2); have hz2 := hb2.size; simp only [World.size_alloc] at hz2; have HA2 := hid ((HA1.out.alloc _).below hb2); have HC2 := hid ((HC1.out.alloc _).below hb2); have HZ2 := hid ((HZ1.out.alloc _).below hb2); have HW2 := hid ((ceblk_new w1 ⟨3, n, owner, need, came, turns, there⟩ pw cw).below hb2); have hbw2 := (hbw1.alloc (by omega) _).trans (hb2.mono (by simp; omega)); obtain ⟨⟨aq0, aq1, aq2, aq3, aq4, aq5, aq6⟩, afq, alq⟩ := HA2.out.facts; dsimp only at aq0 aq1 aq2 aq3 aq4 aq5 aq6; obtain ⟨⟨cq0, cq1, cq2, cq3⟩, clq⟩ := HC2.out.facts; dsimp only at cq0 cq1 cq2 cq3; obtain ⟨⟨zq0, zq1, zq2, zq3, zq4, zq5, zq6⟩, zfq, zlq⟩ := HZ2.out.facts; obtain ⟨⟨wq0, wq1, wq2, wq3, wq4, wq5, wq6⟩, wfq, wlq⟩ := HW2.out.facts; dsimp only at wq0 wq1 wq2 wq3 wq4 wq5 wq6)
      | (go_at_call 63; refine (HIW.out _).mono ?_; rintro e w8 ⟨rfl, rfl⟩)
      | (go_at_call 85; refine (HSTEP.out w3 w2 px cx HOX.out (by omega)).mono ?_; rintro e w4 ⟨rfl, ⟨p4, c4, hk4, hs4, hge4⟩, hb4⟩; have HK4 := hid hk4; have HSW4 := hid ((HSW3.out.alloc _).belowB hb4 (fun q hq => by have := HPW.out q.block (by subst hq; rfl); omega)); have HZ4 := hid ((HZ3.out.alloc _).belowB hb4 (by omega)); have HW4 := hid ((HW3'.out.alloc _).belowB hb4 (by omega)); have hbw4 := (hbw3.alloc (by omega) _).trans (hb4.mono (by omega)); obtain ⟨⟨z40, z41, z42, z43, z44, z45, z46⟩, zf4, zl4⟩ := HZ4.out.facts; obtain ⟨⟨w40, w41, w42, w43, w44, w45, w46⟩, wf4, wl4⟩ := HW4.out.facts; dsimp only at w40 w41 w42 w43 w44 w45 w46; obtain ⟨⟨x40, x41, x42, x43, x44, x45, x46⟩, xf4, xl4⟩ := HK4.out.facts))
    have HNE : Hid (∀ q, pw = some q → q.block ≠ w.heap.size + 1 + 1) := fun q hq e => by have := own_ge how q.block (by subst hq; rfl); omega
    exact bodyPost_ret (v := .tuple #[(Ce.mk 3 n owner need came turns there).val pw cw, i64 0, i64 E]) (by simp [results, Try.results69, go_sem, Ce.val, w40, w41, w42, w43, w44, w45, w46, z40, z41, z42, z43, z44, z45, z46]) rfl (by
      rw [HP.out]
      refine ⟨pw, cw, rfl, ?_, fun q hq => ⟨by have := own_ge how q.block (by subst hq; rfl); omega, by have h2 := HPW.out q.block (by subst hq; rfl); have h4 := hb4.size; simp at h4; simp; omega⟩, ?_⟩
      · repeat (refine SlAt.set ?_ _ _ _ HNE.out)
        exact HSW4.out
      · repeat (refine Below.setCell ?_ (by simp; omega) _)
        exact hbw4)

set_option maxHeartbeats 4000000 in
theorem one_4 (x : Ce) (p : Option Addr) (c : Nat) (wk : Int) (a : Ac) (w : World) (hsl : SlAt w p c x.came) (hm : x.came.length ≤ 17592186043904) (hk : x.kind = 4) (hok : okP x = true) (hw : isW wk = true) :
    Calls Try.prog 69 #[x.val p c, i64 wk, a.val] w (CeTellL (oneP x wk a).1 [i64 (oneP x wk a).2.1, i64 (oneP x wk a).2.2] w) := by
  obtain ⟨kind, n, owner, need, came, turns, there⟩ := x
  dsimp only at hk
  subst hk
  obtain ⟨ak, ac, ao, an⟩ := a
  dsimp only at hsl hm
  unfold Ce.val Ac.val
  dsimp only
  have HC := hid (fun w1 (h : SlAt w1 p c came) =>
    show Calls Try.prog 56 #[.agg #[i64 4, i64 n, i64 owner, i64 need, .slice p came.length c, i64 turns, .bool there]] w1 (fun e w' => ∃ pw cw, e = .returned (.agg #[i64 4, i64 n, i64 owner, i64 need, .slice pw came.length cw, i64 turns, .bool there]) ∧ w'.ownsRow w1.heap.size 3 1 (.slice pw came.length cw) came.length (i64s came) ∧ Below w1.heap.size w1 w') from copied_any ⟨4, n, owner, need, came, turns, there⟩ p c w1 hm h)
  have HK := hid (fun w1 (h : SlAt w1 p c came) => check_any ⟨4, n, owner, need, came, turns, there⟩ p c w1 h hm)
  unfold Ce.val at HK
  dsimp only at HK
  obtain ⟨W3, hW3⟩ : ∃ W3, W3 = ((w.alloc (.cells #[i64 4, i64 n, i64 owner, i64 need, .slice p came.length c, i64 turns, .bool there] 74)).alloc (.cells #[i64 ak, i64 ac, i64 ao, i64 an] 88)).alloc (.cells #[.int .i64 0, .int .i64 0, .int .i64 0, .int .i64 0, .slice none 0 0, .int .i64 0, .bool false] 74) := ⟨_, rfl⟩
  have HST3 := hid (one_start w ⟨4, n, owner, need, came, turns, there⟩ p c ⟨ak, ac, ao, an⟩ W3 hW3)
  have hs3 : SlAt W3 p c came := by rw [hW3]; exact ((hsl.alloc _).alloc _).alloc _
  have hb3 : Below w.heap.size w W3 := by rw [hW3]; exact (((Below.refl _ _).alloc (Nat.le_refl _) _).alloc (by simp) _).alloc (by simp; omega) _
  have hz3 : w.heap.size + 3 = W3.heap.size := by rw [hW3]; simp
  have HW3 := hid hW3
  have HZ3 := hid hz3
  have hz3 : w.heap.size + 3 ≤ W3.heap.size := by omega
  clear hW3 HZ3
  have HSTEP := hid (fun (w3 w2 : World) (px : Option Addr) (cx : Nat) (ho : w3.ownsRow w2.heap.size 3 1 (.slice px came.length cx) came.length (i64s came)) (hw : w2.heap.size ≤ w3.heap.size) =>
    show Calls Try.prog 86 #[.pointer (some ⟨w3.heap.size, 0, none⟩), .agg #[i64 ak, i64 ac, i64 ao, i64 an]] (w3.alloc (.cells #[i64 4, i64 n, i64 owner, i64 need, .slice px came.length cx, i64 turns, .bool there] 74)) (fun e w' => e = .returned (.tuple #[i64 (stepP ⟨4, n, owner, need, came, turns, there⟩ wk ⟨ak, ac, ao, an⟩).2.1, i64 (stepP ⟨4, n, owner, need, came, turns, there⟩ wk ⟨ak, ac, ao, an⟩).2.2]) ∧ (∃ p c, CeBlk w' w3.heap.size (stepP ⟨4, n, owner, need, came, turns, there⟩ wk ⟨ak, ac, ao, an⟩).1 p c ∧ SlAt w' p c (stepP ⟨4, n, owner, need, came, turns, there⟩ wk ⟨ak, ac, ao, an⟩).1.came ∧ ∀ q, p = some q → w2.heap.size ≤ q.block ∧ q.block < w'.heap.size) ∧ Below w2.heap.size (w3.alloc (.cells #[i64 4, i64 n, i64 owner, i64 need, .slice px came.length cx, i64 turns, .bool there] 74)) w') from (future_any ⟨4, n, owner, need, came, turns, there⟩ rfl wk ⟨ak, ac, ao, an⟩ w3.heap.size px cx _ (ceblk_new w3 ⟨4, n, owner, need, came, turns, there⟩ px cx) ((own_slat ho).alloc _) (fun q hq e => by have := own_lt ho q.block (by subst hq; rfl); omega)).mono (fun e w' h => h.toB (fun q hq => ⟨own_ge ho q.block (by subst hq; rfl), by have := own_lt ho q.block (by subst hq; rfl); simp; omega⟩) hw (by simp; omega)))
  have hck : ckP ⟨4, n, owner, need, came, turns, there⟩ = 0 := by simp [ckP, hok]
  have HIW := hid (isW_any wk)
  have HP0 : Hid (oneP ⟨4, n, owner, need, came, turns, there⟩ wk ⟨ak, ac, ao, an⟩ = stepP ⟨4, n, owner, need, came, turns, there⟩ wk ⟨ak, ac, ao, an⟩) := by simp [Hid, oneP, hok, hw]
  rw [hck] at HK
  rw [hw] at HIW
  have HERR := hid (stepP_err ⟨4, n, owner, need, came, turns, there⟩ wk ⟨ak, ac, ao, an⟩)
  obtain ⟨R, hR⟩ : ∃ R, R = stepP ⟨4, n, owner, need, came, turns, there⟩ wk ⟨ak, ac, ao, an⟩ := ⟨_, rfl⟩
  rw [← hR] at HSTEP HP0 HERR
  clear hok hck hw hR
  obtain ⟨X4, V, E⟩ := R
  dsimp only at HSTEP HERR
  by_cases hE : E = 0
  · subst hE
    have HP := HP0
    clear HERR HP0
    go_enter Try.func69, Try.ntmps69
    go_wp2_with (first
      | (go_at_call 56; first
        | (refine (HC.out _ hs2).mono ?_; rintro e w3 ⟨px, cx, rfl, hox, hb3'⟩; have HOX := hid hox; have HSW3 := hid (HSW2.out.below hb3'); have hz3' := hb3'.size; have HA3 := hid (HA2.out.below hb3'); have HC3 := hid (HC2.out.below hb3'); have HZ3 := hid (HZ2.out.below hb3'); have HW3' := hid (HW2.out.below hb3'); have HPX := hid (fun q (hq : px = some q) => own_lt hox q.block (by subst hq; rfl)); have hbw3 := hbw2.trans (hb3'.mono (by omega)); obtain ⟨⟨ar0, ar1, ar2, ar3, ar4, ar5, ar6⟩, afr, alr⟩ := HA3.out.facts; dsimp only at ar0 ar1 ar2 ar3 ar4 ar5 ar6; obtain ⟨⟨cr0, cr1, cr2, cr3⟩, clr⟩ := HC3.out.facts; dsimp only at cr0 cr1 cr2 cr3; obtain ⟨⟨zr0, zr1, zr2, zr3, zr4, zr5, zr6⟩, zfr, zlr⟩ := HZ3.out.facts; obtain ⟨⟨wr0, wr1, wr2, wr3, wr4, wr5, wr6⟩, wfr, wlr⟩ := HW3'.out.facts; dsimp only at wr0 wr1 wr2 wr3 wr4 wr5 wr6)
        | (rw [← HW3.out]; refine (HC.out _ hs3).mono ?_; rintro e w1 ⟨pw, cw, rfl, how, hb1⟩; have hs1 := hs3.below hb1; have HSW := hid (own_slat how); have hz1 := hb1.size; have HA1 := hid (HST3.out.1.below hb1); have HC1 := hid (HST3.out.2.1.below hb1); have HZ1 := hid (HST3.out.2.2.below hb1); have HPW := hid (own_lt how); have hbw1 := hb3.trans (hb1.mono (by omega)); obtain ⟨⟨ap0, ap1, ap2, ap3, ap4, ap5, ap6⟩, afp, alp⟩ := HA1.out.facts; dsimp only at ap0 ap1 ap2 ap3 ap4 ap5 ap6; obtain ⟨⟨cp0, cp1, cp2, cp3⟩, clp⟩ := HC1.out.facts; dsimp only at cp0 cp1 cp2 cp3; obtain ⟨⟨zp0, zp1, zp2, zp3, zp4, zp5, zp6⟩, zfp, zlp⟩ := HZ1.out.facts))
      | (go_at_call 55; refine (HK.out _ (hs1.alloc _)).mono ?_; rintro e w2 ⟨rfl, hb2⟩; have hs2 := (hs1.alloc _).below hb2; have HSW2 := hid ((HSW.out.alloc _).below hb2); have hz2 := hb2.size; simp only [World.size_alloc] at hz2; have HA2 := hid ((HA1.out.alloc _).below hb2); have HC2 := hid ((HC1.out.alloc _).below hb2); have HZ2 := hid ((HZ1.out.alloc _).below hb2); have HW2 := hid ((ceblk_new w1 ⟨4, n, owner, need, came, turns, there⟩ pw cw).below hb2); have hbw2 := (hbw1.alloc (by omega) _).trans (hb2.mono (by simp; omega)); obtain ⟨⟨aq0, aq1, aq2, aq3, aq4, aq5, aq6⟩, afq, alq⟩ := HA2.out.facts; dsimp only at aq0 aq1 aq2 aq3 aq4 aq5 aq6; obtain ⟨⟨cq0, cq1, cq2, cq3⟩, clq⟩ := HC2.out.facts; dsimp only at cq0 cq1 cq2 cq3; obtain ⟨⟨zq0, zq1, zq2, zq3, zq4, zq5, zq6⟩, zfq, zlq⟩ := HZ2.out.facts; obtain ⟨⟨wq0, wq1, wq2, wq3, wq4, wq5, wq6⟩, wfq, wlq⟩ := HW2.out.facts; dsimp only at wq0 wq1 wq2 wq3 wq4 wq5 wq6)
      | (go_at_call 63; refine (HIW.out _).mono ?_; rintro e w8 ⟨rfl, rfl⟩)
      | (go_at_call 86; refine (HSTEP.out w3 w2 px cx HOX.out (by omega)).mono ?_; rintro e w4 ⟨rfl, ⟨p4, c4, hk4, hs4, hge4⟩, hb4⟩; have HK4 := hid hk4; have HSW4 := hid ((HSW3.out.alloc _).belowB hb4 (fun q hq => by have := HPW.out q.block (by subst hq; rfl); omega)); have HZ4 := hid ((HZ3.out.alloc _).belowB hb4 (by omega)); have HW4 := hid ((HW3'.out.alloc _).belowB hb4 (by omega)); have hbw4 := (hbw3.alloc (by omega) _).trans (hb4.mono (by omega)); obtain ⟨⟨z40, z41, z42, z43, z44, z45, z46⟩, zf4, zl4⟩ := HZ4.out.facts; obtain ⟨⟨w40, w41, w42, w43, w44, w45, w46⟩, wf4, wl4⟩ := HW4.out.facts; dsimp only at w40 w41 w42 w43 w44 w45 w46; obtain ⟨⟨x40, x41, x42, x43, x44, x45, x46⟩, xf4, xl4⟩ := HK4.out.facts))
    have HNE : Hid (∀ q, p4 = some q → q.block ≠ w.heap.size + 1 + 1) := fun q hq e => by have := (hge4 q hq).1; omega
    exact bodyPost_ret (v := .tuple #[(X4).val p4 c4, i64 V, i64 0]) (by simp [results, Try.results69, go_sem, Ce.val, x40, x41, x42, x43, x44, x45, x46, z40, z41, z42, z43, z44, z45, z46]) rfl (by
      rw [HP.out]
      refine ⟨p4, c4, rfl, ?_, fun q hq => ⟨by have := (hge4 q hq).1; omega, by have := (hge4 q hq).2; simp; omega⟩, ?_⟩
      · repeat (refine SlAt.set ?_ _ _ _ HNE.out)
        exact hs4
      · repeat (refine Below.setCell ?_ (by simp; omega) _)
        exact hbw4)
  · obtain ⟨hX, hV⟩ := HERR.out hE
    subst hX hV
    have HP := HP0
    have hne : (E != 0) = true := by simpa using hE
    clear HERR HP0 hE
    go_enter Try.func69, Try.ntmps69
    go_wp2_with (first
      | (go_at_call 56; first
        | (refine (HC.out _ hs2).mono ?_; rintro e w3 ⟨px, cx, rfl, hox, hb3'⟩; have HOX := hid hox; have HSW3 := hid (HSW2.out.below hb3'); have hz3' := hb3'.size; have HA3 := hid (HA2.out.below hb3'); have HC3 := hid (HC2.out.below hb3'); have HZ3 := hid (HZ2.out.below hb3'); have HW3' := hid (HW2.out.below hb3'); have HPX := hid (fun q (hq : px = some q) => own_lt hox q.block (by subst hq; rfl)); have hbw3 := hbw2.trans (hb3'.mono (by omega)); obtain ⟨⟨ar0, ar1, ar2, ar3, ar4, ar5, ar6⟩, afr, alr⟩ := HA3.out.facts; dsimp only at ar0 ar1 ar2 ar3 ar4 ar5 ar6; obtain ⟨⟨cr0, cr1, cr2, cr3⟩, clr⟩ := HC3.out.facts; dsimp only at cr0 cr1 cr2 cr3; obtain ⟨⟨zr0, zr1, zr2, zr3, zr4, zr5, zr6⟩, zfr, zlr⟩ := HZ3.out.facts; obtain ⟨⟨wr0, wr1, wr2, wr3, wr4, wr5, wr6⟩, wfr, wlr⟩ := HW3'.out.facts; dsimp only at wr0 wr1 wr2 wr3 wr4 wr5 wr6)
        | (rw [← HW3.out]; refine (HC.out _ hs3).mono ?_; rintro e w1 ⟨pw, cw, rfl, how, hb1⟩; have hs1 := hs3.below hb1; have HSW := hid (own_slat how); have hz1 := hb1.size; have HA1 := hid (HST3.out.1.below hb1); have HC1 := hid (HST3.out.2.1.below hb1); have HZ1 := hid (HST3.out.2.2.below hb1); have HPW := hid (own_lt how); have hbw1 := hb3.trans (hb1.mono (by omega)); obtain ⟨⟨ap0, ap1, ap2, ap3, ap4, ap5, ap6⟩, afp, alp⟩ := HA1.out.facts; dsimp only at ap0 ap1 ap2 ap3 ap4 ap5 ap6; obtain ⟨⟨cp0, cp1, cp2, cp3⟩, clp⟩ := HC1.out.facts; dsimp only at cp0 cp1 cp2 cp3; obtain ⟨⟨zp0, zp1, zp2, zp3, zp4, zp5, zp6⟩, zfp, zlp⟩ := HZ1.out.facts))
      | (go_at_call 55; refine (HK.out _ (hs1.alloc _)).mono ?_; rintro e w2 ⟨rfl, hb2⟩; have hs2 := (hs1.alloc _).below hb2; have HSW2 := hid ((HSW.out.alloc _).below hb2); have hz2 := hb2.size; simp only [World.size_alloc] at hz2; have HA2 := hid ((HA1.out.alloc _).below hb2); have HC2 := hid ((HC1.out.alloc _).below hb2); have HZ2 := hid ((HZ1.out.alloc _).below hb2); have HW2 := hid ((ceblk_new w1 ⟨4, n, owner, need, came, turns, there⟩ pw cw).below hb2); have hbw2 := (hbw1.alloc (by omega) _).trans (hb2.mono (by simp; omega)); obtain ⟨⟨aq0, aq1, aq2, aq3, aq4, aq5, aq6⟩, afq, alq⟩ := HA2.out.facts; dsimp only at aq0 aq1 aq2 aq3 aq4 aq5 aq6; obtain ⟨⟨cq0, cq1, cq2, cq3⟩, clq⟩ := HC2.out.facts; dsimp only at cq0 cq1 cq2 cq3; obtain ⟨⟨zq0, zq1, zq2, zq3, zq4, zq5, zq6⟩, zfq, zlq⟩ := HZ2.out.facts; obtain ⟨⟨wq0, wq1, wq2, wq3, wq4, wq5, wq6⟩, wfq, wlq⟩ := HW2.out.facts; dsimp only at wq0 wq1 wq2 wq3 wq4 wq5 wq6)
      | (go_at_call 63; refine (HIW.out _).mono ?_; rintro e w8 ⟨rfl, rfl⟩)
      | (go_at_call 86; refine (HSTEP.out w3 w2 px cx HOX.out (by omega)).mono ?_; rintro e w4 ⟨rfl, ⟨p4, c4, hk4, hs4, hge4⟩, hb4⟩; have HK4 := hid hk4; have HSW4 := hid ((HSW3.out.alloc _).belowB hb4 (fun q hq => by have := HPW.out q.block (by subst hq; rfl); omega)); have HZ4 := hid ((HZ3.out.alloc _).belowB hb4 (by omega)); have HW4 := hid ((HW3'.out.alloc _).belowB hb4 (by omega)); have hbw4 := (hbw3.alloc (by omega) _).trans (hb4.mono (by omega)); obtain ⟨⟨z40, z41, z42, z43, z44, z45, z46⟩, zf4, zl4⟩ := HZ4.out.facts; obtain ⟨⟨w40, w41, w42, w43, w44, w45, w46⟩, wf4, wl4⟩ := HW4.out.facts; dsimp only at w40 w41 w42 w43 w44 w45 w46; obtain ⟨⟨x40, x41, x42, x43, x44, x45, x46⟩, xf4, xl4⟩ := HK4.out.facts))
    have HNE : Hid (∀ q, pw = some q → q.block ≠ w.heap.size + 1 + 1) := fun q hq e => by have := own_ge how q.block (by subst hq; rfl); omega
    exact bodyPost_ret (v := .tuple #[(Ce.mk 4 n owner need came turns there).val pw cw, i64 0, i64 E]) (by simp [results, Try.results69, go_sem, Ce.val, w40, w41, w42, w43, w44, w45, w46, z40, z41, z42, z43, z44, z45, z46]) rfl (by
      rw [HP.out]
      refine ⟨pw, cw, rfl, ?_, fun q hq => ⟨by have := own_ge how q.block (by subst hq; rfl); omega, by have h2 := HPW.out q.block (by subst hq; rfl); have h4 := hb4.size; simp at h4; simp; omega⟩, ?_⟩
      · repeat (refine SlAt.set ?_ _ _ _ HNE.out)
        exact HSW4.out
      · repeat (refine Below.setCell ?_ (by simp; omega) _)
        exact hbw4)

theorem okP_kind (x : Ce) (h : okP x = true) : x.kind = 1 ∨ x.kind = 2 ∨ x.kind = 3 ∨ x.kind = 4 := by
  by_cases h1 : x.kind = 1
  · exact .inl h1
  · by_cases h2 : x.kind = 2
    · exact .inr (.inl h2)
    · by_cases h3 : x.kind = 3
      · exact .inr (.inr (.inl h3))
      · by_cases h4 : x.kind = 4
        · exact .inr (.inr (.inr h4))
        · simp [okP, h1, h2, h3, h4] at h
theorem one_any (x : Ce) (p : Option Addr) (c : Nat) (wk : Int) (a : Ac) (w : World) (hsl : SlAt w p c x.came) (hm : x.came.length ≤ 17592186043904) :
    Calls Try.prog 69 #[x.val p c, i64 wk, a.val] w (CeTellL (oneP x wk a).1 [i64 (oneP x wk a).2.1, i64 (oneP x wk a).2.2] w) := by
  cases hok : okP x with
  | false => exact one_bad x p c wk a w hsl hm hok
  | true =>
    cases hw : isW wk with
    | false => exact one_noW x p c wk a w hsl hm hok hw
    | true =>
      rcases okP_kind x hok with h | h | h | h
      · exact one_1 x p c wk a w hsl hm h hok hw
      · exact one_2 x p c wk a w hsl hm h hok hw
      · exact one_3 x p c wk a w hsl hm h hok hw
      · exact one_4 x p c wk a w hsl hm h hok hw
end Go.Proofs.Ytabkmdhkfbcldaa
namespace Go.Proofs.Ytabkmdhkfbcldaa
open Go.RowKit

/-- A cell with where its slice lies. -/
structure CeR where
  x : Ce
  p : Option Addr
  c : Nat
def CeR.cells (y : CeR) : List Value := [i64 y.x.kind, i64 y.x.n, i64 y.x.owner, i64 y.x.need, .slice y.p y.x.came.length y.c, i64 y.x.turns, .bool y.x.there]
def ceRow (ys : List CeR) : List Value := ys.flatMap CeR.cells
theorem ceRow_len (ys : List CeR) : (ceRow ys).length = 7 * ys.length := flat_len _ 7 (fun _ => rfl) ys

/-- The seven cells of element k. -/
theorem ce_cells {w : World} {b o : Nat} {ys : List CeR} (h : Row w (some ⟨b, o, none⟩) (ceRow ys)) (k : Nat) (hk : k < ys.length) :
    w.cell? ⟨b, o + k * 7, none⟩ = some (i64 ys[k].x.kind) ∧ w.cell? ⟨b, o + k * 7 + 1, none⟩ = some (i64 ys[k].x.n) ∧ w.cell? ⟨b, o + k * 7 + 2, none⟩ = some (i64 ys[k].x.owner) ∧ w.cell? ⟨b, o + k * 7 + 3, none⟩ = some (i64 ys[k].x.need) ∧
    w.cell? ⟨b, o + k * 7 + 4, none⟩ = some (.slice ys[k].p ys[k].x.came.length ys[k].c) ∧ w.cell? ⟨b, o + k * 7 + 5, none⟩ = some (i64 ys[k].x.turns) ∧ w.cell? ⟨b, o + k * 7 + 6, none⟩ = some (.bool ys[k].x.there) := by
  have each : ∀ j (hj : j < 7), w.cell? ⟨b, o + (k * 7 + j), none⟩ = (CeR.cells ys[k])[j]? := fun j hj => by
    have hl := ceRow_len ys
    rw [show k * 7 + j = 7 * k + j from by omega]
    rw [h.cell (7 * k + j) (by omega), ← flat_get CeR.cells 7 (fun _ => rfl) ys k hk j hj]
    exact (List.getElem?_eq_getElem (by have : 7 * k + j < (ceRow ys).length := by omega
                                        exact this)).symm
  exact ⟨each 0 (by omega), each 1 (by omega), each 2 (by omega), each 3 (by omega), each 4 (by omega), each 5 (by omega), each 6 (by omega)⟩

end Go.Proofs.Ytabkmdhkfbcldaa
namespace Go.Proofs.Ytabkmdhkfbcldaa
open Go.RowKit

theorem oneP_err (x : Ce) (wk : Int) (a : Ac) (h : (oneP x wk a).2.2 ≠ 0) : (oneP x wk a).1 = x ∧ (oneP x wk a).2.1 = 0 := by
  unfold oneP at h ⊢
  split
  · exact ⟨rfl, rfl⟩
  · split
    · exact ⟨rfl, rfl⟩
    · rename_i h1 h2
      rw [if_neg h1, if_neg h2] at h
      exact stepP_err x wk a h

theorem cameN_append {l : List Int} {v : Int} (h : cameN l l.length = true) (hv : isW v = true) (hc : l.contains v = false) : cameN (l ++ [v]) (l ++ [v]).length = true := by
  rw [List.length_append, List.length_singleton, cameN_succ]
  have e1 : cameN (l ++ [v]) l.length = cameN l l.length := by
    unfold cameN
    rw [Bool.eq_iff_iff, List.all_eq_true, List.all_eq_true]
    have each : ∀ i ∈ List.range l.length, (isW ((l ++ [v]).getD i 0) && !((l ++ [v]).take i).contains ((l ++ [v]).getD i 0)) = (isW (l.getD i 0) && !(l.take i).contains (l.getD i 0)) := fun i hi => by
      have hi := List.mem_range.1 hi
      have e : (l ++ [v]).getD i 0 = l.getD i 0 := by simp [List.getD, List.getElem?_append_left hi]
      rw [e, List.take_append_of_le_length (by omega)]
    exact ⟨fun g i hi => by rw [← each i hi]; exact g i hi, fun g i hi => by rw [each i hi]; exact g i hi⟩
  have e2 : (l ++ [v]).getD l.length 0 = v := by simp [List.getD]
  have e3 : (l ++ [v]).take l.length = l := by simp
  rw [e1, e2, e3, h, hv, hc]
  rfl

theorem gateP_iff (x : Ce) : gateP x = true ↔ 1 ≤ x.need ∧ x.need ≤ 64 ∧ (x.came.length : Int) < x.need ∧ 0 ≤ x.turns ∧ x.turns ≤ 1152921504606846976 ∧ cameN x.came x.came.length = true := by
  simp only [gateP, gateHead, Bool.and_eq_true, decide_eq_true_eq]
  exact ⟨fun ⟨⟨⟨⟨⟨a, b⟩, c⟩, d⟩, e⟩, f⟩ => ⟨a, b, c, d, e, f⟩, fun ⟨a, b, c, d, e, f⟩ => ⟨⟨⟨⟨⟨a, b⟩, c⟩, d⟩, e⟩, f⟩⟩

theorem stepP_ok (x : Ce) (wk : Int) (a : Ac) (hok : okP x = true) (hw : isW wk = true) (h : (stepP x wk a).2.2 = 0) : okP (stepP x wk a).1 = true := by
  obtain ⟨kind, n, owner, need, came, turns, there⟩ := x
  rcases okP_kind _ hok with hk | hk | hk | hk <;> (dsimp only at hk; subst hk)
  · unfold stepP at h ⊢
    simp only [reduceIte, Int.reduceEq] at h ⊢
    split
    · exact hok
    · split
      · split
        · simpa [okP] using hok
        · exact hok
      · split
        · simpa [okP] using hok
        · exact hok
  · unfold stepP at h ⊢
    simp only [reduceIte, Int.reduceEq] at h ⊢
    simp [okP] at hok
    split
    · split
      · simpa [okP] using hok
      · split
        · simp [okP, hw, hok]
        · simpa [okP] using hok
    · split
      · split
        · simp [okP, hok]
        · simpa [okP] using hok
      · simpa [okP] using hok
  · unfold stepP at h ⊢
    simp only [reduceIte, Int.reduceEq] at h ⊢
    simp [okP] at hok
    obtain ⟨⟨⟨hg, hn⟩, ho⟩, ht⟩ := hok
    have hg2 := (gateP_iff _).1 hg
    dsimp only at hg2
    obtain ⟨g1, g2, g3, g4, g5, g6⟩ := hg2
    subst hn ho ht
    have hself : okP ⟨3, 0, -1, need, came, turns, false⟩ = true := by simp [okP, hg]
    split
    · split
      · exact hself
      · exact hself
    · split
      · split
        · exact hself
        · split
          · exact hself
          · split
            · have : gateP ⟨3, 0, -1, need, [], turns + 1, false⟩ = true := by
                rw [gateP_iff]; dsimp only
                refine ⟨g1, g2, by simp; omega, by omega, by omega, by simp [cameN]⟩
              simp [okP, this]
            · rename_i hc _ _
              have : gateP ⟨3, 0, -1, need, came ++ [wk], turns, false⟩ = true := by
                rw [gateP_iff]; dsimp only
                refine ⟨g1, g2, by simp; omega, g4, g5, cameN_append g6 hw (by simpa using hc)⟩
              simp [okP, this]
      · exact hself
  · unfold stepP at h ⊢
    simp only [reduceIte, Int.reduceEq] at h ⊢
    simp [okP] at hok
    split
    · split
      · simpa [okP] using hok
      · simp [okP, hok]
    · split
      · split
        · simpa [okP] using hok
        · simpa [okP] using hok
      · simpa [okP] using hok
theorem oneP_ok (x : Ce) (wk : Int) (a : Ac) (h : (oneP x wk a).2.2 = 0) : okP (oneP x wk a).1 = true := by
  unfold oneP at h ⊢
  split
  · rename_i h1; rw [if_pos h1] at h; exact absurd h (by simp)
  · rename_i h1
    rw [if_neg h1] at h
    split
    · rename_i h2; rw [if_pos h2] at h; exact absurd h (by simp)
    · rename_i h2
      rw [if_neg h2] at h
      exact stepP_ok x wk a (by simpa using h1) (by simpa using h2) h
theorem ok_came {x : Ce} (h : okP x = true) : x.came.length ≤ 64 := by
  obtain ⟨kind, n, owner, need, came, turns, there⟩ := x
  rcases okP_kind _ h with hk | hk | hk | hk <;> (dsimp only at hk; subst hk)
  · simp [okP] at h; simp [h]
  · simp [okP] at h; simp [h]
  · simp [okP] at h
    have := (gateP_iff _).1 h.1.1.1
    dsimp only at this ⊢
    omega
  · simp [okP] at h; simp [h]
theorem oneP_came (x : Ce) (wk : Int) (a : Ac) : (oneP x wk a).1.came.length ≤ x.came.length ∨ (oneP x wk a).1.came.length ≤ 64 := by
  by_cases h : (oneP x wk a).2.2 = 0
  · exact .inr (ok_came (oneP_ok x wk a h))
  · exact .inl (by rw [(oneP_err x wk a h).1]; exact Nat.le_refl _)
end Go.Proofs.Ytabkmdhkfbcldaa
namespace Go.Proofs.Ytabkmdhkfbcldaa
open Go.RowKit

/-- What the document's step of a cell tells: its list lies where it lay, or anew. -/
def CeTellN (p0 : Option Addr) (c0 : Nat) (l0 : List Int) (x : Ce) (r : List Value) (w : World) (e : Ending) (w' : World) : Prop :=
  ∃ p c, e = .returned (.tuple ([x.val p c] ++ r).toArray) ∧ SlAt w' p c x.came ∧ ((p = p0 ∧ c = c0 ∧ x.came = l0) ∨ ∀ q, p = some q → w.heap.size ≤ q.block ∧ q.block < w'.heap.size) ∧ Below w.heap.size w w'

end Go.Proofs.Ytabkmdhkfbcldaa
namespace Go.Proofs.Ytabkmdhkfbcldaa
open Go.RowKit
/-- A cell's block, stored into whole. -/
theorem ceblk_store {w : World} {b : Nat} {x : Ce} {p : Option Addr} {c : Nat} (h : CeBlk w b x p c) (x' : Ce) (p' : Option Addr) (c' : Nat) :
    CeBlk (((((((w.setCell ⟨b, 0, none⟩ (i64 x'.kind)).setCell ⟨b, 1, none⟩ (i64 x'.n)).setCell ⟨b, 2, none⟩ (i64 x'.owner)).setCell ⟨b, 3, none⟩ (i64 x'.need)).setCell ⟨b, 4, none⟩ (.slice p' x'.came.length c')).setCell ⟨b, 5, none⟩ (i64 x'.turns)).setCell ⟨b, 6, none⟩ (.bool x'.there)) b x' p' c' := by
  obtain ⟨kind, n, owner, need, came, turns, there⟩ := x
  obtain ⟨kind', n', owner', need', came', turns', there'⟩ := x'
  have h0 : CeBlk (w.setCell ⟨b, 0, none⟩ (i64 kind')) b ⟨kind', n, owner, need, came, turns, there⟩ p c := heap_setCell_same w b 0 _ _ _ h
  have h1 : CeBlk _ b ⟨kind', n', owner, need, came, turns, there⟩ p c := h0.setN n'
  have h2 : CeBlk _ b ⟨kind', n', owner', need, came, turns, there⟩ p c := h1.setOwner owner'
  have h3 : CeBlk (World.setCell _ ⟨b, 3, none⟩ (i64 need')) b ⟨kind', n', owner', need', came, turns, there⟩ p c := heap_setCell_same _ b 3 _ _ _ h2
  have h4 : CeBlk _ b ⟨kind', n', owner', need', came', turns, there⟩ p' c' := h3.setCame came' p' c'
  have h5 : CeBlk _ b ⟨kind', n', owner', need', came', turns', there⟩ p' c' := h4.setTurns turns'
  exact h5.setThere there'
theorem slat_store {w : World} {p : Option Addr} {c : Nat} {l : List Int} (h : SlAt w p c l) (b : Nat) (v0 v1 v2 v3 v4 v5 v6 : Value) (hne : ∀ q, p = some q → q.block ≠ b) :
    SlAt (((((((w.setCell ⟨b, 0, none⟩ v0).setCell ⟨b, 1, none⟩ v1).setCell ⟨b, 2, none⟩ v2).setCell ⟨b, 3, none⟩ v3).setCell ⟨b, 4, none⟩ v4).setCell ⟨b, 5, none⟩ v5).setCell ⟨b, 6, none⟩ v6) p c l := by
  have h0 := h.set b 0 v0 hne
  have h1 := h0.set b 1 v1 hne
  have h2 := h1.set b 2 v2 hne
  have h3 := h2.set b 3 v3 hne
  have h4 := h3.set b 4 v4 hne
  have h5 := h4.set b 5 v5 hne
  exact h5.set b 6 v6 hne
theorem below_store {B : Nat} {a w : World} (h : Below B a w) (b : Nat) (hb : B ≤ b) (v0 v1 v2 v3 v4 v5 v6 : Value) :
    Below B a (((((((w.setCell ⟨b, 0, none⟩ v0).setCell ⟨b, 1, none⟩ v1).setCell ⟨b, 2, none⟩ v2).setCell ⟨b, 3, none⟩ v3).setCell ⟨b, 4, none⟩ v4).setCell ⟨b, 5, none⟩ v5).setCell ⟨b, 6, none⟩ v6) := by
  have h0 := h.setCell (p := ⟨b, 0, none⟩) hb v0
  have h1 := h0.setCell (p := ⟨b, 1, none⟩) hb v1
  have h2 := h1.setCell (p := ⟨b, 2, none⟩) hb v2
  have h3 := h2.setCell (p := ⟨b, 3, none⟩) hb v3
  have h4 := h3.setCell (p := ⟨b, 4, none⟩) hb v4
  have h5 := h4.setCell (p := ⟨b, 5, none⟩) hb v5
  exact h5.setCell (p := ⟨b, 6, none⟩) hb v6

theorem ceblk_setO {w : World} {b b' : Nat} {x : Ce} {p : Option Addr} {c : Nat} (h : CeBlk w b x p c) (hne : b ≠ b') (o : Nat) (v : Value) : CeBlk (w.setCell ⟨b', o, none⟩ v) b x p c := (Below.heap_setCell w ⟨b', o, none⟩ v b hne).trans h
theorem ceblk_storeO {w : World} {b : Nat} {x : Ce} {p : Option Addr} {c : Nat} (h : CeBlk w b x p c) (b' : Nat) (hne : b ≠ b') (v0 v1 v2 v3 v4 v5 v6 : Value) :
    CeBlk (((((((w.setCell ⟨b', 0, none⟩ v0).setCell ⟨b', 1, none⟩ v1).setCell ⟨b', 2, none⟩ v2).setCell ⟨b', 3, none⟩ v3).setCell ⟨b', 4, none⟩ v4).setCell ⟨b', 5, none⟩ v5).setCell ⟨b', 6, none⟩ v6) b x p c := by
  have h0 := ceblk_setO h hne 0 v0
  have h1 := ceblk_setO h0 hne 1 v1
  have h2 := ceblk_setO h1 hne 2 v2
  have h3 := ceblk_setO h2 hne 3 v3
  have h4 := ceblk_setO h3 hne 4 v4
  have h5 := ceblk_setO h4 hne 5 v5
  exact ceblk_setO h5 hne 6 v6

end Go.Proofs.Ytabkmdhkfbcldaa
namespace Go.Proofs.Ytabkmdhkfbcldaa
open Go.RowKit

theorem contains_take_succ {l : List Int} {k : Nat} (h : k < l.length) (v : Int) : (l.take (k + 1)).contains v = ((l.take k).contains v || (v == l[k])) := by
  have e := take_succ l k h
  rw [e, Bool.eq_iff_iff]
  simp only [List.contains_iff_mem, List.mem_append, List.mem_singleton, Bool.or_eq_true, beq_iff_eq]

theorem SlAt.setL {w0 w : World} {p : Option Addr} {c : Nat} {l : List Int} (h : SlAt w p c l) (h0 : SlAt w0 p c l) (b o : Nat) (v : Value) (hb : w0.heap.size ≤ b) : SlAt (w.setCell ⟨b, o, none⟩ v) p c l :=
  ⟨h.1, h.2.1, h.2.2.1, h.2.2.2.set_lt h0.2.2.2 ⟨b, o, none⟩ v hb⟩
theorem own_store7 {w : World} {base : Nat} {e : TypeId} {size : Nat} {v : Value} {n : Nat} {xs : List Value} (h : w.ownsRow base e size v n xs) (b : Nat) (hne : ∀ g, v.ownBlock = some g → g ≠ b) (v0 v1 v2 v3 v4 v5 v6 : Value) :
    (((((((w.setCell ⟨b, 0, none⟩ v0).setCell ⟨b, 1, none⟩ v1).setCell ⟨b, 2, none⟩ v2).setCell ⟨b, 3, none⟩ v3).setCell ⟨b, 4, none⟩ v4).setCell ⟨b, 5, none⟩ v5).setCell ⟨b, 6, none⟩ v6).ownsRow base e size v n xs := by
  have h0 := own_setO h ⟨b, 0, none⟩ v0 hne
  have h1 := own_setO h0 ⟨b, 1, none⟩ v1 hne
  have h2 := own_setO h1 ⟨b, 2, none⟩ v2 hne
  have h3 := own_setO h2 ⟨b, 3, none⟩ v3 hne
  have h4 := own_setO h3 ⟨b, 4, none⟩ v4 hne
  have h5 := own_setO h4 ⟨b, 5, none⟩ v5 hne
  exact own_setO h5 ⟨b, 6, none⟩ v6 hne

end Go.Proofs.Ytabkmdhkfbcldaa
namespace Go.Proofs.Ytabkmdhkfbcldaa
open Go.RowKit

end Go.Proofs.Ytabkmdhkfbcldaa
namespace Go.Proofs.Ytabkmdhkfbcldaa
open Go.RowKit

structure Mem where
  cs : List Ce
  steps : Int
variable {W W' : World} {base d : Nat} {hd : Value → Int → Obj} {v : Value} {ys : List CeR} {S : Mem} {fp fp' : Nat → Prop}
/-- What an access comes to, not done yet: the cell, the answer, what is wrong. -/
def Mem.look (S : Mem) (wk : Int) (a : Ac) : Ce × Int × Int :=
  if a.cell < 0 ∨ (S.cs.length : Int) ≤ a.cell then (ce0, 0, 230) else oneP (S.cs.getD a.cell.toNat ce0) wk a
def Mem.step (S : Mem) (wk : Int) (a : Ac) : Mem :=
  if (S.look wk a).2.2 = 0 then ⟨S.cs.set a.cell.toNat (S.look wk a).1, IntKind.i64.wrap (S.steps + 1)⟩ else S
/-- What Do tells. -/
def Mem.tell (S : Mem) (wk : Int) (a : Ac) : Int × Int :=
  if (S.look wk a).2.2 = 0 then ((S.look wk a).2.1, 0) else (0, (S.look wk a).2.2)
theorem Mem.step_len (S : Mem) (wk : Int) (a : Ac) : (S.step wk a).cs.length = S.cs.length := by unfold Mem.step; split <;> simp

/-- All that is not in fp lies on. -/
structure Turn (fp : Nat → Prop) (w w' : World) : Prop where
  os : w'.os = w.os
  tape : w'.tape = w.tape
  output : w'.output = w.output
  size : w.heap.size ≤ w'.heap.size
  block : ∀ k, k < w.heap.size → ¬ fp k → w'.heap[k]? = w.heap[k]?
theorem Turn.of_below (h : Below W.heap.size W W') : Turn fp W W' := ⟨h.os, h.tape, h.output, h.size, fun k hk _ => h.block k hk⟩
theorem own_blk {w w' : World} {e : TypeId} {size n : Nat} {v : Value} {xs : List Value} (h : w.ownsRow base e size v n xs) (hk : ∀ g, v.ownBlock = some g → w'.heap[g]? = w.heap[g]?) : w'.ownsRow base e size v n xs := by
  refine ⟨h.1, ?_⟩
  rcases h.2 with hn' | ⟨g, cap, cur, rfl, hge, hg, rest⟩
  · exact .inl hn'
  · exact .inr ⟨g, cap, cur, rfl, hge, (hk g rfl).trans hg, rest⟩
theorem SlAt.blk {p : Option Addr} {c : Nat} {l : List Int} (h : SlAt W p c l) (hk : ∀ q, p = some q → W'.heap[q.block]? = W.heap[q.block]?) : SlAt W' p c l := by
  refine ⟨h.1, h.2.1, h.2.2.1, fun hne => ?_⟩
  obtain ⟨b, o, rfl, hc⟩ := h.2.2.2 hne
  exact ⟨b, o, rfl, fun i hi => by rw [← hc i hi]; exact World.cell?_of_block (a := ⟨b, o + i, none⟩) (hk ⟨b, o, none⟩ rfl)⟩

structure MemIs (W : World) (base d : Nat) (hd : Value → Int → Obj) (v : Value) (ys : List CeR) (S : Mem) (fp : Nat → Prop) : Prop where
  cs : S.cs = ys.map CeR.x
  ok : ∀ y ∈ ys, okP y.x = true
  head : W.heap[d]? = some (hd v S.steps)
  own : W.ownsRow base 74 7 v ys.length (ceRow ys)
  sl : ∀ y ∈ ys, SlAt W y.p y.c y.x.came
  fd : fp d
  fv : ∀ g, v.ownBlock = some g → fp g
  fs : ∀ y ∈ ys, ∀ q, y.p = some q → fp q.block
  nd : v.ownBlock ≠ some d
  ap : ∀ y ∈ ys, ∀ q, y.p = some q → q.block ≠ d ∧ v.ownBlock ≠ some q.block
  lt : ∀ k, fp k → k < W.heap.size
  bd : base ≤ d
theorem MemIs.kept (H : MemIs W base d hd v ys S fp) (hk : ∀ k, fp k → W'.heap[k]? = W.heap[k]?) (hs : W.heap.size ≤ W'.heap.size) : MemIs W' base d hd v ys S fp :=
  ⟨H.cs, H.ok, (hk d H.fd).trans H.head, own_blk H.own (fun g hg => hk g (H.fv g hg)), fun y hy => (H.sl y hy).blk (fun q hq => hk _ (H.fs y hy q hq)), H.fd, H.fv, H.fs, H.nd, H.ap, fun k h => Nat.lt_of_lt_of_le (H.lt k h) hs, H.bd⟩
theorem MemIs.below (H : MemIs W base d hd v ys S fp) (hb : Below W.heap.size W W') : MemIs W' base d hd v ys S fp := H.kept (fun k hk => hb.block k (H.lt k hk)) hb.size
def MMach (W : World) (base d : Nat) (hd : Value → Int → Obj) (S : Mem) (fp : Nat → Prop) : Prop := ∃ v ys, MemIs W base d hd v ys S fp
theorem MMach.kept (H : MMach W base d hd S fp) (hk : ∀ k, fp k → W'.heap[k]? = W.heap[k]?) (hs : W.heap.size ≤ W'.heap.size) : MMach W' base d hd S fp := by
  obtain ⟨v, ys, h⟩ := H; exact ⟨v, ys, h.kept hk hs⟩
theorem MMach.below (H : MMach W base d hd S fp) (hb : Below W.heap.size W W') : MMach W' base d hd S fp := by
  obtain ⟨v, ys, h⟩ := H; exact ⟨v, ys, h.below hb⟩
theorem MemIs.len (H : MemIs W base d hd v ys S fp) : S.cs.length = ys.length := by rw [H.cs, List.length_map]
theorem MemIs.look (H : MemIs W base d hd v ys S fp) {wk : Int} {a : Ac} {k : Nat} (hk : k < ys.length) (e : a.cell = k) : S.look wk a = oneP ys[k].x wk a := by
  unfold Mem.look
  rw [if_neg (by rw [H.len]; omega), e, Int.toNat_natCast]
  congr 1
  rw [H.cs, List.getD_eq_getElem?_getD, List.getElem?_map, List.getElem?_eq_getElem hk]; rfl
theorem MemIs.look_no (H : MemIs W base d hd v ys S fp) {wk : Int} {a : Ac} (e : a.cell < 0 ∨ (ys.length : Int) ≤ a.cell) : S.look wk a = (ce0, 0, 230) := by
  unfold Mem.look
  rw [if_pos (by rw [H.len]; exact e)]

/-- The seven cells of element k, stored anew. -/
theorem ceRow_set (ys : List CeR) (k : Nat) (hk : k < ys.length) (y : CeR) :
    (((((((ceRow ys).set (k * 7) (i64 y.x.kind)).set (k * 7 + 1) (i64 y.x.n)).set (k * 7 + 2) (i64 y.x.owner)).set (k * 7 + 3) (i64 y.x.need)).set (k * 7 + 4) (.slice y.p y.x.came.length y.c)).set (k * 7 + 5) (i64 y.x.turns)).set (k * 7 + 6) (.bool y.x.there) = ceRow (ys.set k y) := by
  induction ys generalizing k with
  | nil => cases hk
  | cons a l ih =>
    cases k with
    | zero => simp [ceRow, CeR.cells]
    | succ k =>
      have := ih k (by simpa using hk)
      simp only [ceRow, List.flatMap_cons, List.set_cons_succ] at this ⊢
      rw [← this]
      have e : ∀ j, (k + 1) * 7 + j = (CeR.cells a).length + (k * 7 + j) := fun j => by show _ = 7 + _; omega
      have e0 : (k + 1) * 7 = (CeR.cells a).length + k * 7 := e 0
      rw [e0, show (CeR.cells a).length + k * 7 + 1 = (CeR.cells a).length + (k * 7 + 1) from by omega, show (CeR.cells a).length + k * 7 + 2 = (CeR.cells a).length + (k * 7 + 2) from by omega, show (CeR.cells a).length + k * 7 + 3 = (CeR.cells a).length + (k * 7 + 3) from by omega, show (CeR.cells a).length + k * 7 + 4 = (CeR.cells a).length + (k * 7 + 4) from by omega, show (CeR.cells a).length + k * 7 + 5 = (CeR.cells a).length + (k * 7 + 5) from by omega, show (CeR.cells a).length + k * 7 + 6 = (CeR.cells a).length + (k * 7 + 6) from by omega]
      simp only [List.set_append_right _ _ (Nat.le_add_right _ _), Nat.add_sub_cancel_left]
end Go.Proofs.Ytabkmdhkfbcldaa
