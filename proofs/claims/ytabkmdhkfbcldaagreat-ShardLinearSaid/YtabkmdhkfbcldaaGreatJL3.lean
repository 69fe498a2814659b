/-
 The walk of cells.One.
 Rows of cells.
 Plain facts on what an access makes of a cell.
 The walks of the document's number, lock and future.
 A cell's block behind a store of the whole cell.
 The walk of the document's barrier.
 The walk of the document's One.
-/
import Derived.Test.YtabkmdhkfbcldaaGreatJL2
import Derived.Test.YtabkmdhkfbcldaaGreatJL0
namespace Go.Proofs.YtabkmdhkfbcldaaGreat
open Go.RowKit
theorem stepP_err (x : Ce) (wk : Int) (a : Ac) (h : (stepP x wk a).2.2 ≠ 0) : (stepP x wk a).1 = x ∧ (stepP x wk a).2.1 = 0 := by
 unfold stepP at h ⊢
 repeat' split at h
 all_goals first
  | exact absurd rfl h
  | (simp_all; done)
def CeTellL (x : Ce) (r : List Value) (w : World) (e : Ending) (w' : World) : Prop :=
 ∃ p c, e = .returned (.tuple ([x.val p c] ++ r).toArray) ∧ SlAt w' p c x.came ∧ (∀ q, p = some q → w.heap.size ≤ q.block ∧ q.block < w'.heap.size) ∧ Below w.heap.size w w'
def AcBlk (w : World) (b : Nat) (a : Ac) : Prop := w.heap[b]? = some (.cells #[i64 a.kind, i64 a.cell, i64 a.old, i64 a.new] 75 (0, 0))
def AcFacts (w : World) (b : Nat) (a : Ac) : Prop :=
 (w.cell? ⟨b, 0, none⟩ = some (i64 a.kind) ∧ w.cell? ⟨b, 1, none⟩ = some (i64 a.cell) ∧ w.cell? ⟨b, 2, none⟩ = some (i64 a.old) ∧ w.cell? ⟨b, 3, none⟩ = some (i64 a.new)) ∧ b < w.heap.size
theorem AcBlk.facts {w : World} {b : Nat} {a : Ac} (h : AcBlk w b a) : AcFacts w b a :=
 ⟨⟨cell_of_row w b 0 _ _ _ h, cell_of_row w b 1 _ _ _ h, cell_of_row w b 2 _ _ _ h, cell_of_row w b 3 _ _ _ h⟩, (Array.getElem?_eq_some_iff.1 h).1⟩
theorem AcBlk.alloc {w : World} {b : Nat} {a : Ac} (h : AcBlk w b a) (o : Obj) : AcBlk (w.alloc o) b a := (Below.heap_alloc w o b (Array.getElem?_eq_some_iff.1 h).1).trans h
theorem AcBlk.below {w w' : World} {b : Nat} {a : Ac} (h : AcBlk w b a) (hb : Below w.heap.size w w') : AcBlk w' b a := (hb.block b (Array.getElem?_eq_some_iff.1 h).1).trans h
theorem ceblk_new (w : World) (x : Ce) (p : Option Addr) (c : Nat) : CeBlk (w.alloc (.cells #[i64 x.kind, i64 x.n, i64 x.owner, i64 x.need, .slice p x.came.length c, i64 x.turns, .bool x.there] 61)) w.heap.size x p c := heap_alloc_new w _
theorem acblk_new (w : World) (a : Ac) : AcBlk (w.alloc (.cells #[i64 a.kind, i64 a.cell, i64 a.old, i64 a.new] 75)) w.heap.size a := heap_alloc_new w _
theorem CeBlk.belowB {B : Nat} {w w' : World} {b : Nat} {x : Ce} {p : Option Addr} {c : Nat} (h : CeBlk w b x p c) (hb : Below B w w') (hlt : b < B) : CeBlk w' b x p c := (hb.block b hlt).trans h
theorem SlAt.belowB {B : Nat} {W w : World} {p : Option Addr} {c : Nat} {l : List Int} (h : SlAt W p c l) (hb : Below B W w) (hlt : ∀ q, p = some q → q.block < B) : SlAt w p c l := by
 refine ⟨h.1, h.2.1, h.2.2.1, fun hne => ?_⟩
 obtain ⟨b, o, rfl, hc⟩ := h.2.2.2 hne
 exact ⟨b, o, rfl, fun i hi => by rw [hb.cell (p := ⟨b, o + i, none⟩) (show b < B from hlt ⟨b, o, none⟩ rfl)]; exact hc i hi⟩
theorem one_start (w : World) (x : Ce) (p : Option Addr) (c : Nat) (a : Ac) : ∀ W, W = ((w.alloc (.cells #[i64 x.kind, i64 x.n, i64 x.owner, i64 x.need, .slice p x.came.length c, i64 x.turns, .bool x.there] 61)).alloc (.cells #[i64 a.kind, i64 a.cell, i64 a.old, i64 a.new] 75)).alloc (.cells #[.int .i64 0, .int .i64 0, .int .i64 0, .int .i64 0, .slice none 0 0, .int .i64 0, .bool false] 61) →
  CeBlk W w.heap.size x p c ∧ AcBlk W (w.heap.size + 1) a ∧ CeBlk W (w.heap.size + 1 + 1) ce0 none 0 := by
 rintro W rfl
 refine ⟨((ceblk_new w x p c).alloc _).alloc _, ?_, ?_⟩
 ·have := (acblk_new (w.alloc (.cells #[i64 x.kind, i64 x.n, i64 x.owner, i64 x.need, .slice p x.came.length c, i64 x.turns, .bool x.there] 61)) a)
  rw [World.size_alloc] at this
  exact this.alloc _
 ·have := ceblk_new ((w.alloc (.cells #[i64 x.kind, i64 x.n, i64 x.owner, i64 x.need, .slice p x.came.length c, i64 x.turns, .bool x.there] 61)).alloc (.cells #[i64 a.kind, i64 a.cell, i64 a.old, i64 a.new] 75)) ce0 none 0
  rw [World.size_alloc, World.size_alloc] at this
  exact this
set_option maxHeartbeats 4000000 in
theorem one_bad (x : Ce) (p : Option Addr) (c : Nat) (wk : Int) (a : Ac) (w : World) (hsl : SlAt w p c x.came) (hm : x.came.length ≤ 17592186043904) (hok : okP x = false) :
  Calls Tryz.prog 65 #[x.val p c, i64 wk, a.val] w (CeTellL (oneP x wk a).1 [i64 (oneP x wk a).2.1, i64 (oneP x wk a).2.2] w) := by
 obtain ⟨kind, n, owner, need, came, turns, there⟩ := x
 obtain ⟨ak, ac, ao, an⟩ := a
 dsimp only at hsl hm
 unfold Ce.val Ac.val
 dsimp only
 have HC := hid (fun w1 (h : SlAt w1 p c came) =>
  show Calls Tryz.prog 38 #[.agg #[i64 kind, i64 n, i64 owner, i64 need, .slice p came.length c, i64 turns, .bool there]] w1 (fun e w' => ∃ pw cw, e = .returned (.agg #[i64 kind, i64 n, i64 owner, i64 need, .slice pw came.length cw, i64 turns, .bool there]) ∧ w'.ownsRow w1.heap.size 3 1 (.slice pw came.length cw) came.length (i64s came) ∧ Below w1.heap.size w1 w') from copied_any ⟨kind, n, owner, need, came, turns, there⟩ p c w1 hm h)
 have HK := hid (fun w1 (h : SlAt w1 p c came) => check_any ⟨kind, n, owner, need, came, turns, there⟩ p c w1 h hm)
 unfold Ce.val at HK
 dsimp only at HK
 obtain ⟨W3, hW3⟩ : ∃ W3, W3 = ((w.alloc (.cells #[i64 kind, i64 n, i64 owner, i64 need, .slice p came.length c, i64 turns, .bool there] 61)).alloc (.cells #[i64 ak, i64 ac, i64 ao, i64 an] 75)).alloc (.cells #[.int .i64 0, .int .i64 0, .int .i64 0, .int .i64 0, .slice none 0 0, .int .i64 0, .bool false] 61) := ⟨_, rfl⟩
 have HST3 := hid (one_start w ⟨kind, n, owner, need, came, turns, there⟩ p c ⟨ak, ac, ao, an⟩ W3 hW3)
 have hs3 : SlAt W3 p c came := by rw [hW3]; exact ((hsl.alloc _).alloc _).alloc _
 have hb3 : Below w.heap.size w W3 := by rw [hW3]; exact (((Below.refl _ _).alloc (Nat.le_refl _) _).alloc (by simp) _).alloc (by simp; omega) _
 have hz3 : w.heap.size + 3 = W3.heap.size := by rw [hW3]; simp
 have HW3 := hid hW3
 have HZ3 := hid hz3
 have hz3 : w.heap.size + 3 ≤ W3.heap.size := by omega
 clear hW3 HZ3
 have HP : Hid (oneP ⟨kind, n, owner, need, came, turns, there⟩ wk ⟨ak, ac, ao, an⟩ = (⟨kind, n, owner, need, came, turns, there⟩, 0, 230)) := by simp [Hid, oneP, hok]
 have hck : ckP ⟨kind, n, owner, need, came, turns, there⟩ = 230 := by simp [ckP, hok]
 rw [hck] at HK
 clear hok hck
 go_enter Tryz.func65, Tryz.ntmps65
 go_wp2_with (first
  | (go_at_call 38; rw [← HW3.out]; refine (HC.out _ hs3).mono ?_; rintro e w1 ⟨pw, cw, rfl, how, hb1⟩; have hs1 := hs3.below hb1; have HSW := hid (own_slat how); have hz1 := hb1.size; have HA1 := hid (HST3.out.1.below hb1); have HC1 := hid (HST3.out.2.1.below hb1); have HZ1 := hid (HST3.out.2.2.below hb1); have HPW := hid (own_lt how); have hbw1 := hb3.trans (hb1.mono (by omega)); obtain ⟨⟨ap0, ap1, ap2, ap3, ap4, ap5, ap6⟩, afp, alp⟩ := HA1.out.facts; dsimp only at ap0 ap1 ap2 ap3 ap4 ap5 ap6; obtain ⟨⟨cp0, cp1, cp2, cp3⟩, clp⟩ := HC1.out.facts; dsimp only at cp0 cp1 cp2 cp3; obtain ⟨⟨zp0, zp1, zp2, zp3, zp4, zp5, zp6⟩, zfp, zlp⟩ := HZ1.out.facts)
  | (go_at_call 37; refine (HK.out _ (hs1.alloc _)).mono ?_; rintro e w2 ⟨rfl, hb2⟩; have hs2 := (hs1.alloc _).below hb2; have HSW2 := hid ((HSW.out.alloc _).below hb2); have hz2 := hb2.size; simp only [World.size_alloc] at hz2; have HA2 := hid ((HA1.out.alloc _).below hb2); have HC2 := hid ((HC1.out.alloc _).below hb2); have HZ2 := hid ((HZ1.out.alloc _).below hb2); have HW2 := hid ((ceblk_new w1 ⟨kind, n, owner, need, came, turns, there⟩ pw cw).below hb2); have hbw2 := (hbw1.alloc (by omega) _).trans (hb2.mono (by simp; omega)); obtain ⟨⟨aq0, aq1, aq2, aq3, aq4, aq5, aq6⟩, afq, alq⟩ := HA2.out.facts; dsimp only at aq0 aq1 aq2 aq3 aq4 aq5 aq6; obtain ⟨⟨cq0, cq1, cq2, cq3⟩, clq⟩ := HC2.out.facts; dsimp only at cq0 cq1 cq2 cq3; obtain ⟨⟨zq0, zq1, zq2, zq3, zq4, zq5, zq6⟩, zfq, zlq⟩ := HZ2.out.facts; obtain ⟨⟨wq0, wq1, wq2, wq3, wq4, wq5, wq6⟩, wfq, wlq⟩ := HW2.out.facts; dsimp only at wq0 wq1 wq2 wq3 wq4 wq5 wq6))
 have HNE : Hid (∀ q, pw = some q → q.block ≠ w.heap.size + 1 + 1) := fun q hq e => by have := own_ge how q.block (by subst hq; rfl); omega
 exact bodyPost_ret (v := .tuple #[(Ce.mk kind n owner need came turns there).val pw cw, i64 0, i64 230]) (by simp [results, Tryz.results65, go_sem, Ce.val, wq0, wq1, wq2, wq3, wq4, wq5, wq6, zq0, zq1, zq2, zq3, zq4, zq5, zq6]) rfl (by
  rw [HP.out]
  refine ⟨pw, cw, rfl, ?_, fun q hq => ⟨by have := own_ge how q.block (by subst hq; rfl); omega, by have h2 := HPW.out q.block (by subst hq; rfl); simp; omega⟩, ?_⟩
  ·repeat (refine SlAt.set ?_ _ _ _ HNE.out)
   exact HSW2.out
  ·repeat (refine Below.setCell ?_ (by simp; omega) _)
   exact hbw2)
set_option maxHeartbeats 4000000 in
theorem one_noW (x : Ce) (p : Option Addr) (c : Nat) (wk : Int) (a : Ac) (w : World) (hsl : SlAt w p c x.came) (hm : x.came.length ≤ 17592186043904) (hok : okP x = true) (hw : isW wk = false) :
  Calls Tryz.prog 65 #[x.val p c, i64 wk, a.val] w (CeTellL (oneP x wk a).1 [i64 (oneP x wk a).2.1, i64 (oneP x wk a).2.2] w) := by
 obtain ⟨kind, n, owner, need, came, turns, there⟩ := x
 obtain ⟨ak, ac, ao, an⟩ := a
 dsimp only at hsl hm
 unfold Ce.val Ac.val
 dsimp only
 have HC := hid (fun w1 (h : SlAt w1 p c came) =>
  show Calls Tryz.prog 38 #[.agg #[i64 kind, i64 n, i64 owner, i64 need, .slice p came.length c, i64 turns, .bool there]] w1 (fun e w' => ∃ pw cw, e = .returned (.agg #[i64 kind, i64 n, i64 owner, i64 need, .slice pw came.length cw, i64 turns, .bool there]) ∧ w'.ownsRow w1.heap.size 3 1 (.slice pw came.length cw) came.length (i64s came) ∧ Below w1.heap.size w1 w') from copied_any ⟨kind, n, owner, need, came, turns, there⟩ p c w1 hm h)
 have HK := hid (fun w1 (h : SlAt w1 p c came) => check_any ⟨kind, n, owner, need, came, turns, there⟩ p c w1 h hm)
 unfold Ce.val at HK
 dsimp only at HK
 obtain ⟨W3, hW3⟩ : ∃ W3, W3 = ((w.alloc (.cells #[i64 kind, i64 n, i64 owner, i64 need, .slice p came.length c, i64 turns, .bool there] 61)).alloc (.cells #[i64 ak, i64 ac, i64 ao, i64 an] 75)).alloc (.cells #[.int .i64 0, .int .i64 0, .int .i64 0, .int .i64 0, .slice none 0 0, .int .i64 0, .bool false] 61) := ⟨_, rfl⟩
 have HST3 := hid (one_start w ⟨kind, n, owner, need, came, turns, there⟩ p c ⟨ak, ac, ao, an⟩ W3 hW3)
 have hs3 : SlAt W3 p c came := by rw [hW3]; exact ((hsl.alloc _).alloc _).alloc _
 have hb3 : Below w.heap.size w W3 := by rw [hW3]; exact (((Below.refl _ _).alloc (Nat.le_refl _) _).alloc (by simp) _).alloc (by simp; omega) _
 have hz3 : w.heap.size + 3 = W3.heap.size := by rw [hW3]; simp
 have HW3 := hid hW3
 have HZ3 := hid hz3
 have hz3 : w.heap.size + 3 ≤ W3.heap.size := by omega
 clear hW3 HZ3
 have HP : Hid (oneP ⟨kind, n, owner, need, came, turns, there⟩ wk ⟨ak, ac, ao, an⟩ = (⟨kind, n, owner, need, came, turns, there⟩, 0, 1)) := by simp [Hid, oneP, hok, hw]
 have hck : ckP ⟨kind, n, owner, need, came, turns, there⟩ = 0 := by simp [ckP, hok]
 have HIW := hid (isW_any wk)
 rw [hck] at HK
 rw [hw] at HIW
 clear hok hck hw
 go_enter Tryz.func65, Tryz.ntmps65
 go_wp2_with (first
  | (go_at_call 38; rw [← HW3.out]; refine (HC.out _ hs3).mono ?_; rintro e w1 ⟨pw, cw, rfl, how, hb1⟩; have hs1 := hs3.below hb1; have HSW := hid (own_slat how); have hz1 := hb1.size; have HA1 := hid (HST3.out.1.below hb1); have HC1 := hid (HST3.out.2.1.below hb1); have HZ1 := hid (HST3.out.2.2.below hb1); have HPW := hid (own_lt how); have hbw1 := hb3.trans (hb1.mono (by omega)); obtain ⟨⟨ap0, ap1, ap2, ap3, ap4, ap5, ap6⟩, afp, alp⟩ := HA1.out.facts; dsimp only at ap0 ap1 ap2 ap3 ap4 ap5 ap6; obtain ⟨⟨cp0, cp1, cp2, cp3⟩, clp⟩ := HC1.out.facts; dsimp only at cp0 cp1 cp2 cp3; obtain ⟨⟨zp0, zp1, zp2, zp3, zp4, zp5, zp6⟩, zfp, zlp⟩ := HZ1.out.facts)
  | (go_at_call 37; refine (HK.out _ (hs1.alloc _)).mono ?_; rintro e w2 ⟨rfl, hb2⟩; have hs2 := (hs1.alloc _).below hb2; have HSW2 := hid ((HSW.out.alloc _).below hb2); have hz2 := hb2.size; simp only [World.size_alloc] at hz2; have HA2 := hid ((HA1.out.alloc _).below hb2); have HC2 := hid ((HC1.out.alloc _).below hb2); have HZ2 := hid ((HZ1.out.alloc _).below hb2); have HW2 := hid ((ceblk_new w1 ⟨kind, n, owner, need, came, turns, there⟩ pw cw).below hb2); have hbw2 := (hbw1.alloc (by omega) _).trans (hb2.mono (by simp; omega)); obtain ⟨⟨aq0, aq1, aq2, aq3, aq4, aq5, aq6⟩, afq, alq⟩ := HA2.out.facts; dsimp only at aq0 aq1 aq2 aq3 aq4 aq5 aq6; obtain ⟨⟨cq0, cq1, cq2, cq3⟩, clq⟩ := HC2.out.facts; dsimp only at cq0 cq1 cq2 cq3; obtain ⟨⟨zq0, zq1, zq2, zq3, zq4, zq5, zq6⟩, zfq, zlq⟩ := HZ2.out.facts; obtain ⟨⟨wq0, wq1, wq2, wq3, wq4, wq5, wq6⟩, wfq, wlq⟩ := HW2.out.facts; dsimp only at wq0 wq1 wq2 wq3 wq4 wq5 wq6)
  | (go_at_call 59; refine (HIW.out _).mono ?_; rintro e w8 ⟨rfl, rfl⟩))
 have HNE : Hid (∀ q, pw = some q → q.block ≠ w.heap.size + 1 + 1) := fun q hq e => by have := own_ge how q.block (by subst hq; rfl); omega
 exact bodyPost_ret (v := .tuple #[(Ce.mk kind n owner need came turns there).val pw cw, i64 0, i64 1]) (by simp [results, Tryz.results65, go_sem, Ce.val, wq0, wq1, wq2, wq3, wq4, wq5, wq6, zq0, zq1, zq2, zq3, zq4, zq5, zq6]) rfl (by
  rw [HP.out]
  refine ⟨pw, cw, rfl, ?_, fun q hq => ⟨by have := own_ge how q.block (by subst hq; rfl); omega, by have h2 := HPW.out q.block (by subst hq; rfl); simp; omega⟩, ?_⟩
  ·repeat (refine SlAt.set ?_ _ _ _ HNE.out)
   exact HSW2.out
  ·repeat (refine Below.setCell ?_ (by simp; omega) _)
   exact hbw2)
set_option maxHeartbeats 4000000 in
theorem one_1 (x : Ce) (p : Option Addr) (c : Nat) (wk : Int) (a : Ac) (w : World) (hsl : SlAt w p c x.came) (hm : x.came.length ≤ 17592186043904) (hk : x.kind = 1) (hok : okP x = true) (hw : isW wk = true) :
  Calls Tryz.prog 65 #[x.val p c, i64 wk, a.val] w (CeTellL (oneP x wk a).1 [i64 (oneP x wk a).2.1, i64 (oneP x wk a).2.2] w) := by
 obtain ⟨kind, n, owner, need, came, turns, there⟩ := x
 dsimp only at hk
 subst hk
 obtain ⟨ak, ac, ao, an⟩ := a
 dsimp only at hsl hm
 unfold Ce.val Ac.val
 dsimp only
 have HC := hid (fun w1 (h : SlAt w1 p c came) =>
  show Calls Tryz.prog 38 #[.agg #[i64 1, i64 n, i64 owner, i64 need, .slice p came.length c, i64 turns, .bool there]] w1 (fun e w' => ∃ pw cw, e = .returned (.agg #[i64 1, i64 n, i64 owner, i64 need, .slice pw came.length cw, i64 turns, .bool there]) ∧ w'.ownsRow w1.heap.size 3 1 (.slice pw came.length cw) came.length (i64s came) ∧ Below w1.heap.size w1 w') from copied_any ⟨1, n, owner, need, came, turns, there⟩ p c w1 hm h)
 have HK := hid (fun w1 (h : SlAt w1 p c came) => check_any ⟨1, n, owner, need, came, turns, there⟩ p c w1 h hm)
 unfold Ce.val at HK
 dsimp only at HK
 obtain ⟨W3, hW3⟩ : ∃ W3, W3 = ((w.alloc (.cells #[i64 1, i64 n, i64 owner, i64 need, .slice p came.length c, i64 turns, .bool there] 61)).alloc (.cells #[i64 ak, i64 ac, i64 ao, i64 an] 75)).alloc (.cells #[.int .i64 0, .int .i64 0, .int .i64 0, .int .i64 0, .slice none 0 0, .int .i64 0, .bool false] 61) := ⟨_, rfl⟩
 have HST3 := hid (one_start w ⟨1, n, owner, need, came, turns, there⟩ p c ⟨ak, ac, ao, an⟩ W3 hW3)
 have hs3 : SlAt W3 p c came := by rw [hW3]; exact ((hsl.alloc _).alloc _).alloc _
 have hb3 : Below w.heap.size w W3 := by rw [hW3]; exact (((Below.refl _ _).alloc (Nat.le_refl _) _).alloc (by simp) _).alloc (by simp; omega) _
 have hz3 : w.heap.size + 3 = W3.heap.size := by rw [hW3]; simp
 have HW3 := hid hW3
 have HZ3 := hid hz3
 have hz3 : w.heap.size + 3 ≤ W3.heap.size := by omega
 clear hW3 HZ3
 have HSTEP := hid (fun (w3 w2 : World) (px : Option Addr) (cx : Nat) (ho : w3.ownsRow w2.heap.size 3 1 (.slice px came.length cx) came.length (i64s came)) (hw : w2.heap.size ≤ w3.heap.size) =>
  show Calls Tryz.prog 72 #[.pointer (some ⟨w3.heap.size, 0, none⟩), .agg #[i64 ak, i64 ac, i64 ao, i64 an]] (w3.alloc (.cells #[i64 1, i64 n, i64 owner, i64 need, .slice px came.length cx, i64 turns, .bool there] 61)) (fun e w' => e = .returned (.tuple #[i64 (stepP ⟨1, n, owner, need, came, turns, there⟩ wk ⟨ak, ac, ao, an⟩).2.1, i64 (stepP ⟨1, n, owner, need, came, turns, there⟩ wk ⟨ak, ac, ao, an⟩).2.2]) ∧ (∃ p c, CeBlk w' w3.heap.size (stepP ⟨1, n, owner, need, came, turns, there⟩ wk ⟨ak, ac, ao, an⟩).1 p c ∧ SlAt w' p c (stepP ⟨1, n, owner, need, came, turns, there⟩ wk ⟨ak, ac, ao, an⟩).1.came ∧ ∀ q, p = some q → w2.heap.size ≤ q.block ∧ q.block < w'.heap.size) ∧ Below w2.heap.size (w3.alloc (.cells #[i64 1, i64 n, i64 owner, i64 need, .slice px came.length cx, i64 turns, .bool there] 61)) w') from (number_any ⟨1, n, owner, need, came, turns, there⟩ rfl wk ⟨ak, ac, ao, an⟩ w3.heap.size px cx _ (ceblk_new w3 ⟨1, n, owner, need, came, turns, there⟩ px cx) ((own_slat ho).alloc _) (fun q hq e => by have := own_lt ho q.block (by subst hq; rfl); omega)).mono (fun e w' h => h.toB (fun q hq => ⟨own_ge ho q.block (by subst hq; rfl), by have := own_lt ho q.block (by subst hq; rfl); simp; omega⟩) hw (by simp; omega)))
 have hck : ckP ⟨1, n, owner, need, came, turns, there⟩ = 0 := by simp [ckP, hok]
 have HIW := hid (isW_any wk)
 have HP0 : Hid (oneP ⟨1, n, owner, need, came, turns, there⟩ wk ⟨ak, ac, ao, an⟩ = stepP ⟨1, n, owner, need, came, turns, there⟩ wk ⟨ak, ac, ao, an⟩) := by simp [Hid, oneP, hok, hw]
 rw [hck] at HK
 rw [hw] at HIW
 have HERR := hid (stepP_err ⟨1, n, owner, need, came, turns, there⟩ wk ⟨ak, ac, ao, an⟩)
 obtain ⟨R, hR⟩ : ∃ R, R = stepP ⟨1, n, owner, need, came, turns, there⟩ wk ⟨ak, ac, ao, an⟩ := ⟨_, rfl⟩
 rw [← hR] at HSTEP HP0 HERR
 clear hok hck hw hR
 obtain ⟨X4, V, E⟩ := R
 dsimp only at HSTEP HERR
 by_cases hE : E = 0
 ·subst hE
  have HP := HP0
  clear HERR HP0
  go_enter Tryz.func65, Tryz.ntmps65
  go_wp2_with (first
   | (go_at_call 38; first
    | (refine (HC.out _ hs2).mono ?_; rintro e w3 ⟨px, cx, rfl, hox, hb3'⟩; have HOX := hid hox; have HSW3 := hid (HSW2.out.below hb3'); have hz3' := hb3'.size; have HA3 := hid (HA2.out.below hb3'); have HC3 := hid (HC2.out.below hb3'); have HZ3 := hid (HZ2.out.below hb3'); have HW3' := hid (HW2.out.below hb3'); have HPX := hid (fun q (hq : px = some q) => own_lt hox q.block (by subst hq; rfl)); have hbw3 := hbw2.trans (hb3'.mono (by omega)); obtain ⟨⟨ar0, ar1, ar2, ar3, ar4, ar5, ar6⟩, afr, alr⟩ := HA3.out.facts; dsimp only at ar0 ar1 ar2 ar3 ar4 ar5 ar6; obtain ⟨⟨cr0, cr1, cr2, cr3⟩, clr⟩ := HC3.out.facts; dsimp only at cr0 cr1 cr2 cr3; obtain ⟨⟨zr0, zr1, zr2, zr3, zr4, zr5, zr6⟩, zfr, zlr⟩ := HZ3.out.facts; obtain ⟨⟨wr0, wr1, wr2, wr3, wr4, wr5, wr6⟩, wfr, wlr⟩ := HW3'.out.facts; dsimp only at wr0 wr1 wr2 wr3 wr4 wr5 wr6)
    | (rw [← HW3.out]; refine (HC.out _ hs3).mono ?_; rintro e w1 ⟨pw, cw, rfl, how, hb1⟩; have hs1 := hs3.below hb1; have HSW := hid (own_slat how); have hz1 := hb1.size; have HA1 := hid (HST3.out.1.below hb1); have HC1 := hid (HST3.out.2.1.below hb1); have HZ1 := hid (HST3.out.2.2.below hb1); have HPW := hid (own_lt how); have hbw1 := hb3.trans (hb1.mono (by omega)); obtain ⟨⟨ap0, ap1, ap2, ap3, ap4, ap5, ap6⟩, afp, alp⟩ := HA1.out.facts; dsimp only at ap0 ap1 ap2 ap3 ap4 ap5 ap6; obtain ⟨⟨cp0, cp1, cp2, cp3⟩, clp⟩ := HC1.out.facts; dsimp only at cp0 cp1 cp2 cp3; obtain ⟨⟨zp0, zp1, zp2, zp3, zp4, zp5, zp6⟩, zfp, zlp⟩ := HZ1.out.facts))
   | (go_at_call 37; refine (HK.out _ (hs1.alloc _)).mono ?_; rintro e w2 ⟨rfl, hb2⟩; have hs2 := (hs1.alloc _).below hb2; have HSW2 := hid ((HSW.out.alloc _).below hb2); have hz2 := hb2.size; simp only [World.size_alloc] at hz2; have HA2 := hid ((HA1.out.alloc _).below hb2); have HC2 := hid ((HC1.out.alloc _).below hb2); have HZ2 := hid ((HZ1.out.alloc _).below hb2); have HW2 := hid ((ceblk_new w1 ⟨1, n, owner, need, came, turns, there⟩ pw cw).below hb2); have hbw2 := (hbw1.alloc (by omega) _).trans (hb2.mono (by simp; omega)); obtain ⟨⟨aq0, aq1, aq2, aq3, aq4, aq5, aq6⟩, afq, alq⟩ := HA2.out.facts; dsimp only at aq0 aq1 aq2 aq3 aq4 aq5 aq6; obtain ⟨⟨cq0, cq1, cq2, cq3⟩, clq⟩ := HC2.out.facts; dsimp only at cq0 cq1 cq2 cq3; obtain ⟨⟨zq0, zq1, zq2, zq3, zq4, zq5, zq6⟩, zfq, zlq⟩ := HZ2.out.facts; obtain ⟨⟨wq0, wq1, wq2, wq3, wq4, wq5, wq6⟩, wfq, wlq⟩ := HW2.out.facts; dsimp only at wq0 wq1 wq2 wq3 wq4 wq5 wq6)
   | (go_at_call 59; refine (HIW.out _).mono ?_; rintro e w8 ⟨rfl, rfl⟩)
   | (go_at_call 72; refine (HSTEP.out w3 w2 px cx HOX.out (by omega)).mono ?_; rintro e w4 ⟨rfl, ⟨p4, c4, hk4, hs4, hge4⟩, hb4⟩; have HK4 := hid hk4; have HSW4 := hid ((HSW3.out.alloc _).belowB hb4 (fun q hq => by have := HPW.out q.block (by subst hq; rfl); omega)); have HZ4 := hid ((HZ3.out.alloc _).belowB hb4 (by omega)); have HW4 := hid ((HW3'.out.alloc _).belowB hb4 (by omega)); have hbw4 := (hbw3.alloc (by omega) _).trans (hb4.mono (by omega)); obtain ⟨⟨z40, z41, z42, z43, z44, z45, z46⟩, zf4, zl4⟩ := HZ4.out.facts; obtain ⟨⟨w40, w41, w42, w43, w44, w45, w46⟩, wf4, wl4⟩ := HW4.out.facts; dsimp only at w40 w41 w42 w43 w44 w45 w46; obtain ⟨⟨x40, x41, x42, x43, x44, x45, x46⟩, xf4, xl4⟩ := HK4.out.facts))
  have HNE : Hid (∀ q, p4 = some q → q.block ≠ w.heap.size + 1 + 1) := fun q hq e => by have := (hge4 q hq).1; omega
  exact bodyPost_ret (v := .tuple #[(X4).val p4 c4, i64 V, i64 0]) (by simp [results, Tryz.results65, go_sem, Ce.val, x40, x41, x42, x43, x44, x45, x46, z40, z41, z42, z43, z44, z45, z46]) rfl (by
   rw [HP.out]
   refine ⟨p4, c4, rfl, ?_, fun q hq => ⟨by have := (hge4 q hq).1; omega, by have := (hge4 q hq).2; simp; omega⟩, ?_⟩
   ·repeat (refine SlAt.set ?_ _ _ _ HNE.out)
    exact hs4
   ·repeat (refine Below.setCell ?_ (by simp; omega) _)
    exact hbw4)
 ·obtain ⟨hX, hV⟩ := HERR.out hE
  subst hX hV
  have HP := HP0
  have hne : (E != 0) = true := by simpa using hE
  clear HERR HP0 hE
  go_enter Tryz.func65, Tryz.ntmps65
  go_wp2_with (first
   | (go_at_call 38; first
    | (refine (HC.out _ hs2).mono ?_; rintro e w3 ⟨px, cx, rfl, hox, hb3'⟩; have HOX := hid hox; have HSW3 := hid (HSW2.out.below hb3'); have hz3' := hb3'.size; have HA3 := hid (HA2.out.below hb3'); have HC3 := hid (HC2.out.below hb3'); have HZ3 := hid (HZ2.out.below hb3'); have HW3' := hid (HW2.out.below hb3'); have HPX := hid (fun q (hq : px = some q) => own_lt hox q.block (by subst hq; rfl)); have hbw3 := hbw2.trans (hb3'.mono (by omega)); obtain ⟨⟨ar0, ar1, ar2, ar3, ar4, ar5, ar6⟩, afr, alr⟩ := HA3.out.facts; dsimp only at ar0 ar1 ar2 ar3 ar4 ar5 ar6; obtain ⟨⟨cr0, cr1, cr2, cr3⟩, clr⟩ := HC3.out.facts; dsimp only at cr0 cr1 cr2 cr3; obtain ⟨⟨zr0, zr1, zr2, zr3, zr4, zr5, zr6⟩, zfr, zlr⟩ := HZ3.out.facts; obtain ⟨⟨wr0, wr1, wr2, wr3, wr4, wr5, wr6⟩, wfr, wlr⟩ := HW3'.out.facts; dsimp only at wr0 wr1 wr2 wr3 wr4 wr5 wr6)
    | (rw [← HW3.out]; refine (HC.out _ hs3).mono ?_; rintro e w1 ⟨pw, cw, rfl, how, hb1⟩; have hs1 := hs3.below hb1; have HSW := hid (own_slat how); have hz1 := hb1.size; have HA1 := hid (HST3.out.1.below hb1); have HC1 := hid (HST3.out.2.1.below hb1); have HZ1 := hid (HST3.out.2.2.below hb1); have HPW := hid (own_lt how); have hbw1 := hb3.trans (hb1.mono (by omega)); obtain ⟨⟨ap0, ap1, ap2, ap3, ap4, ap5, ap6⟩, afp, alp⟩ := HA1.out.facts; dsimp only at ap0 ap1 ap2 ap3 ap4 ap5 ap6; obtain ⟨⟨cp0, cp1, cp2, cp3⟩, clp⟩ := HC1.out.facts; dsimp only at cp0 cp1 cp2 cp3; obtain ⟨⟨zp0, zp1, zp2, zp3, zp4, zp5, zp6⟩, zfp, zlp⟩ := HZ1.out.facts))
   | (go_at_call 37; refine (HK.out _ (hs1.alloc _)).mono ?_; rintro e w2 ⟨rfl, hb2⟩; have hs2 := (hs1.alloc _).below hb2; have HSW2 := hid ((HSW.out.alloc _).below hb2); have hz2 := hb2.size; simp only [World.size_alloc] at hz2; have HA2 := hid ((HA1.out.alloc _).below hb2); have HC2 := hid ((HC1.out.alloc _).below hb2); have HZ2 := hid ((HZ1.out.alloc _).below hb2); have HW2 := hid ((ceblk_new w1 ⟨1, n, owner, need, came, turns, there⟩ pw cw).below hb2); have hbw2 := (hbw1.alloc (by omega) _).trans (hb2.mono (by simp; omega)); obtain ⟨⟨aq0, aq1, aq2, aq3, aq4, aq5, aq6⟩, afq, alq⟩ := HA2.out.facts; dsimp only at aq0 aq1 aq2 aq3 aq4 aq5 aq6; obtain ⟨⟨cq0, cq1, cq2, cq3⟩, clq⟩ := HC2.out.facts; dsimp only at cq0 cq1 cq2 cq3; obtain ⟨⟨zq0, zq1, zq2, zq3, zq4, zq5, zq6⟩, zfq, zlq⟩ := HZ2.out.facts; obtain ⟨⟨wq0, wq1, wq2, wq3, wq4, wq5, wq6⟩, wfq, wlq⟩ := HW2.out.facts; dsimp only at wq0 wq1 wq2 wq3 wq4 wq5 wq6)
   | (go_at_call 59; refine (HIW.out _).mono ?_; rintro e w8 ⟨rfl, rfl⟩)
   | (go_at_call 72; refine (HSTEP.out w3 w2 px cx HOX.out (by omega)).mono ?_; rintro e w4 ⟨rfl, ⟨p4, c4, hk4, hs4, hge4⟩, hb4⟩; have HK4 := hid hk4; have HSW4 := hid ((HSW3.out.alloc _).belowB hb4 (fun q hq => by have := HPW.out q.block (by subst hq; rfl); omega)); have HZ4 := hid ((HZ3.out.alloc _).belowB hb4 (by omega)); have HW4 := hid ((HW3'.out.alloc _).belowB hb4 (by omega)); have hbw4 := (hbw3.alloc (by omega) _).trans (hb4.mono (by omega)); obtain ⟨⟨z40, z41, z42, z43, z44, z45, z46⟩, zf4, zl4⟩ := HZ4.out.facts; obtain ⟨⟨w40, w41, w42, w43, w44, w45, w46⟩, wf4, wl4⟩ := HW4.out.facts; dsimp only at w40 w41 w42 w43 w44 w45 w46; obtain ⟨⟨x40, x41, x42, x43, x44, x45, x46⟩, xf4, xl4⟩ := HK4.out.facts))
  have HNE : Hid (∀ q, pw = some q → q.block ≠ w.heap.size + 1 + 1) := fun q hq e => by have := own_ge how q.block (by subst hq; rfl); omega
  exact bodyPost_ret (v := .tuple #[(Ce.mk 1 n owner need came turns there).val pw cw, i64 0, i64 E]) (by simp [results, Tryz.results65, go_sem, Ce.val, w40, w41, w42, w43, w44, w45, w46, z40, z41, z42, z43, z44, z45, z46]) rfl (by
   rw [HP.out]
   refine ⟨pw, cw, rfl, ?_, fun q hq => ⟨by have := own_ge how q.block (by subst hq; rfl); omega, by have h2 := HPW.out q.block (by subst hq; rfl); have h4 := hb4.size; simp at h4; simp; omega⟩, ?_⟩
   ·repeat (refine SlAt.set ?_ _ _ _ HNE.out)
    exact HSW4.out
   ·repeat (refine Below.setCell ?_ (by simp; omega) _)
    exact hbw4)
set_option maxHeartbeats 4000000 in
theorem one_2 (x : Ce) (p : Option Addr) (c : Nat) (wk : Int) (a : Ac) (w : World) (hsl : SlAt w p c x.came) (hm : x.came.length ≤ 17592186043904) (hk : x.kind = 2) (hok : okP x = true) (hw : isW wk = true) :
  Calls Tryz.prog 65 #[x.val p c, i64 wk, a.val] w (CeTellL (oneP x wk a).1 [i64 (oneP x wk a).2.1, i64 (oneP x wk a).2.2] w) := by
 obtain ⟨kind, n, owner, need, came, turns, there⟩ := x
 dsimp only at hk
 subst hk
 obtain ⟨ak, ac, ao, an⟩ := a
 dsimp only at hsl hm
 unfold Ce.val Ac.val
 dsimp only
 have HC := hid (fun w1 (h : SlAt w1 p c came) =>
  show Calls Tryz.prog 38 #[.agg #[i64 2, i64 n, i64 owner, i64 need, .slice p came.length c, i64 turns, .bool there]] w1 (fun e w' => ∃ pw cw, e = .returned (.agg #[i64 2, i64 n, i64 owner, i64 need, .slice pw came.length cw, i64 turns, .bool there]) ∧ w'.ownsRow w1.heap.size 3 1 (.slice pw came.length cw) came.length (i64s came) ∧ Below w1.heap.size w1 w') from copied_any ⟨2, n, owner, need, came, turns, there⟩ p c w1 hm h)
 have HK := hid (fun w1 (h : SlAt w1 p c came) => check_any ⟨2, n, owner, need, came, turns, there⟩ p c w1 h hm)
 unfold Ce.val at HK
 dsimp only at HK
 obtain ⟨W3, hW3⟩ : ∃ W3, W3 = ((w.alloc (.cells #[i64 2, i64 n, i64 owner, i64 need, .slice p came.length c, i64 turns, .bool there] 61)).alloc (.cells #[i64 ak, i64 ac, i64 ao, i64 an] 75)).alloc (.cells #[.int .i64 0, .int .i64 0, .int .i64 0, .int .i64 0, .slice none 0 0, .int .i64 0, .bool false] 61) := ⟨_, rfl⟩
 have HST3 := hid (one_start w ⟨2, n, owner, need, came, turns, there⟩ p c ⟨ak, ac, ao, an⟩ W3 hW3)
 have hs3 : SlAt W3 p c came := by rw [hW3]; exact ((hsl.alloc _).alloc _).alloc _
 have hb3 : Below w.heap.size w W3 := by rw [hW3]; exact (((Below.refl _ _).alloc (Nat.le_refl _) _).alloc (by simp) _).alloc (by simp; omega) _
 have hz3 : w.heap.size + 3 = W3.heap.size := by rw [hW3]; simp
 have HW3 := hid hW3
 have HZ3 := hid hz3
 have hz3 : w.heap.size + 3 ≤ W3.heap.size := by omega
 clear hW3 HZ3
 have HSTEP := hid (fun (w3 w2 : World) (px : Option Addr) (cx : Nat) (ho : w3.ownsRow w2.heap.size 3 1 (.slice px came.length cx) came.length (i64s came)) (hw : w2.heap.size ≤ w3.heap.size) =>
  show Calls Tryz.prog 73 #[.pointer (some ⟨w3.heap.size, 0, none⟩), i64 wk, .agg #[i64 ak, i64 ac, i64 ao, i64 an]] (w3.alloc (.cells #[i64 2, i64 n, i64 owner, i64 need, .slice px came.length cx, i64 turns, .bool there] 61)) (fun e w' => e = .returned (.tuple #[i64 (stepP ⟨2, n, owner, need, came, turns, there⟩ wk ⟨ak, ac, ao, an⟩).2.1, i64 (stepP ⟨2, n, owner, need, came, turns, there⟩ wk ⟨ak, ac, ao, an⟩).2.2]) ∧ (∃ p c, CeBlk w' w3.heap.size (stepP ⟨2, n, owner, need, came, turns, there⟩ wk ⟨ak, ac, ao, an⟩).1 p c ∧ SlAt w' p c (stepP ⟨2, n, owner, need, came, turns, there⟩ wk ⟨ak, ac, ao, an⟩).1.came ∧ ∀ q, p = some q → w2.heap.size ≤ q.block ∧ q.block < w'.heap.size) ∧ Below w2.heap.size (w3.alloc (.cells #[i64 2, i64 n, i64 owner, i64 need, .slice px came.length cx, i64 turns, .bool there] 61)) w') from (lock_any ⟨2, n, owner, need, came, turns, there⟩ rfl wk ⟨ak, ac, ao, an⟩ w3.heap.size px cx _ (ceblk_new w3 ⟨2, n, owner, need, came, turns, there⟩ px cx) ((own_slat ho).alloc _) (fun q hq e => by have := own_lt ho q.block (by subst hq; rfl); omega)).mono (fun e w' h => h.toB (fun q hq => ⟨own_ge ho q.block (by subst hq; rfl), by have := own_lt ho q.block (by subst hq; rfl); simp; omega⟩) hw (by simp; omega)))
 have hck : ckP ⟨2, n, owner, need, came, turns, there⟩ = 0 := by simp [ckP, hok]
 have HIW := hid (isW_any wk)
 have HP0 : Hid (oneP ⟨2, n, owner, need, came, turns, there⟩ wk ⟨ak, ac, ao, an⟩ = stepP ⟨2, n, owner, need, came, turns, there⟩ wk ⟨ak, ac, ao, an⟩) := by simp [Hid, oneP, hok, hw]
 rw [hck] at HK
 rw [hw] at HIW
 have HERR := hid (stepP_err ⟨2, n, owner, need, came, turns, there⟩ wk ⟨ak, ac, ao, an⟩)
 obtain ⟨R, hR⟩ : ∃ R, R = stepP ⟨2, n, owner, need, came, turns, there⟩ wk ⟨ak, ac, ao, an⟩ := ⟨_, rfl⟩
 rw [← hR] at HSTEP HP0 HERR
 clear hok hck hw hR
 obtain ⟨X4, V, E⟩ := R
 dsimp only at HSTEP HERR
 by_cases hE : E = 0
 ·subst hE
  have HP := HP0
  clear HERR HP0
  go_enter Tryz.func65, Tryz.ntmps65
  go_wp2_with (first
   | (go_at_call 38; first
    | (refine (HC.out _ hs2).mono ?_; rintro e w3 ⟨px, cx, rfl, hox, hb3'⟩; have HOX := hid hox; have HSW3 := hid (HSW2.out.below hb3'); have hz3' := hb3'.size; have HA3 := hid (HA2.out.below hb3'); have HC3 := hid (HC2.out.below hb3'); have HZ3 := hid (HZ2.out.below hb3'); have HW3' := hid (HW2.out.below hb3'); have HPX := hid (fun q (hq : px = some q) => own_lt hox q.block (by subst hq; rfl)); have hbw3 := hbw2.trans (hb3'.mono (by omega)); obtain ⟨⟨ar0, ar1, ar2, ar3, ar4, ar5, ar6⟩, afr, alr⟩ := HA3.out.facts; dsimp only at ar0 ar1 ar2 ar3 ar4 ar5 ar6; obtain ⟨⟨cr0, cr1, cr2, cr3⟩, clr⟩ := HC3.out.facts; dsimp only at cr0 cr1 cr2 cr3; obtain ⟨⟨zr0, zr1, zr2, zr3, zr4, zr5, zr6⟩, zfr, zlr⟩ := HZ3.out.facts; obtain ⟨⟨wr0, wr1, wr2, wr3, wr4, wr5, wr6⟩, wfr, wlr⟩ := HW3'.out.facts; dsimp only at wr0 wr1 wr2 wr3 wr4 wr5 wr6)
    | (rw [← HW3.out]; refine (HC.out _ hs3).mono ?_; rintro e w1 ⟨pw, cw, rfl, how, hb1⟩; have hs1 := hs3.below hb1; have HSW := hid (own_slat how); have hz1 := hb1.size; have HA1 := hid (HST3.out.1.below hb1); have HC1 := hid (HST3.out.2.1.below hb1); have HZ1 := hid (HST3.out.2.2.below hb1); have HPW := hid (own_lt how); have hbw1 := hb3.trans (hb1.mono (by omega)); obtain ⟨⟨ap0, ap1, ap2, ap3, ap4, ap5, ap6⟩, afp, alp⟩ := HA1.out.facts; dsimp only at ap0 ap1 ap2 ap3 ap4 ap5 ap6; obtain ⟨⟨cp0, cp1, cp2, cp3⟩, clp⟩ := HC1.out.facts; dsimp only at cp0 cp1 cp2 cp3; obtain ⟨⟨zp0, zp1, zp2, zp3, zp4, zp5, zp6⟩, zfp, zlp⟩ := HZ1.out.facts))
   | (go_at_call 37; refine (HK.out _ (hs1.alloc _)).mono ?_; rintro e w2 ⟨rfl, hb2⟩; have hs2 := (hs1.alloc _).below hb2; have HSW2 := hid ((HSW.out.alloc _).below hb2); have hz2 := hb2.size; simp only [World.size_alloc] at hz2; have HA2 := hid ((HA1.out.alloc _).below hb2); have HC2 := hid ((HC1.out.alloc _).below hb2); have HZ2 := hid ((HZ1.out.alloc _).below hb2); have HW2 := hid ((ceblk_new w1 ⟨2, n, owner, need, came, turns, there⟩ pw cw).below hb2); have hbw2 := (hbw1.alloc (by omega) _).trans (hb2.mono (by simp; omega)); obtain ⟨⟨aq0, aq1, aq2, aq3, aq4, aq5, aq6⟩, afq, alq⟩ := HA2.out.facts; dsimp only at aq0 aq1 aq2 aq3 aq4 aq5 aq6; obtain ⟨⟨cq0, cq1, cq2, cq3⟩, clq⟩ := HC2.out.facts; dsimp only at cq0 cq1 cq2 cq3; obtain ⟨⟨zq0, zq1, zq2, zq3, zq4, zq5, zq6⟩, zfq, zlq⟩ := HZ2.out.facts; obtain ⟨⟨wq0, wq1, wq2, wq3, wq4, wq5, wq6⟩, wfq, wlq⟩ := HW2.out.facts; dsimp only at wq0 wq1 wq2 wq3 wq4 wq5 wq6)
   | (go_at_call 59; refine (HIW.out _).mono ?_; rintro e w8 ⟨rfl, rfl⟩)
   | (go_at_call 73; refine (HSTEP.out w3 w2 px cx HOX.out (by omega)).mono ?_; rintro e w4 ⟨rfl, ⟨p4, c4, hk4, hs4, hge4⟩, hb4⟩; have HK4 := hid hk4; have HSW4 := hid ((HSW3.out.alloc _).belowB hb4 (fun q hq => by have := HPW.out q.block (by subst hq; rfl); omega)); have HZ4 := hid ((HZ3.out.alloc _).belowB hb4 (by omega)); have HW4 := hid ((HW3'.out.alloc _).belowB hb4 (by omega)); have hbw4 := (hbw3.alloc (by omega) _).trans (hb4.mono (by omega)); obtain ⟨⟨z40, z41, z42, z43, z44, z45, z46⟩, zf4, zl4⟩ := HZ4.out.facts; obtain ⟨⟨w40, w41, w42, w43, w44, w45, w46⟩, wf4, wl4⟩ := HW4.out.facts; dsimp only at w40 w41 w42 w43 w44 w45 w46; obtain ⟨⟨x40, x41, x42, x43, x44, x45, x46⟩, xf4, xl4⟩ := HK4.out.facts))
  have HNE : Hid (∀ q, p4 = some q → q.block ≠ w.heap.size + 1 + 1) := fun q hq e => by have := (hge4 q hq).1; omega
  exact bodyPost_ret (v := .tuple #[(X4).val p4 c4, i64 V, i64 0]) (by simp [results, Tryz.results65, go_sem, Ce.val, x40, x41, x42, x43, x44, x45, x46, z40, z41, z42, z43, z44, z45, z46]) rfl (by
   rw [HP.out]
   refine ⟨p4, c4, rfl, ?_, fun q hq => ⟨by have := (hge4 q hq).1; omega, by have := (hge4 q hq).2; simp; omega⟩, ?_⟩
   ·repeat (refine SlAt.set ?_ _ _ _ HNE.out)
    exact hs4
   ·repeat (refine Below.setCell ?_ (by simp; omega) _)
    exact hbw4)
 ·obtain ⟨hX, hV⟩ := HERR.out hE
  subst hX hV
  have HP := HP0
  have hne : (E != 0) = true := by simpa using hE
  clear HERR HP0 hE
  go_enter Tryz.func65, Tryz.ntmps65
  go_wp2_with (first
   | (go_at_call 38; first
    | (refine (HC.out _ hs2).mono ?_; rintro e w3 ⟨px, cx, rfl, hox, hb3'⟩; have HOX := hid hox; have HSW3 := hid (HSW2.out.below hb3'); have hz3' := hb3'.size; have HA3 := hid (HA2.out.below hb3'); have HC3 := hid (HC2.out.below hb3'); have HZ3 := hid (HZ2.out.below hb3'); have HW3' := hid (HW2.out.below hb3'); have HPX := hid (fun q (hq : px = some q) => own_lt hox q.block (by subst hq; rfl)); have hbw3 := hbw2.trans (hb3'.mono (by omega)); obtain ⟨⟨ar0, ar1, ar2, ar3, ar4, ar5, ar6⟩, afr, alr⟩ := HA3.out.facts; dsimp only at ar0 ar1 ar2 ar3 ar4 ar5 ar6; obtain ⟨⟨cr0, cr1, cr2, cr3⟩, clr⟩ := HC3.out.facts; dsimp only at cr0 cr1 cr2 cr3; obtain ⟨⟨zr0, zr1, zr2, zr3, zr4, zr5, zr6⟩, zfr, zlr⟩ := HZ3.out.facts; obtain ⟨⟨wr0, wr1, wr2, wr3, wr4, wr5, wr6⟩, wfr, wlr⟩ := HW3'.out.facts; dsimp only at wr0 wr1 wr2 wr3 wr4 wr5 wr6)
    | (rw [← HW3.out]; refine (HC.out _ hs3).mono ?_; rintro e w1 ⟨pw, cw, rfl, how, hb1⟩; have hs1 := hs3.below hb1; have HSW := hid (own_slat how); have hz1 := hb1.size; have HA1 := hid (HST3.out.1.below hb1); have HC1 := hid (HST3.out.2.1.below hb1); have HZ1 := hid (HST3.out.2.2.below hb1); have HPW := hid (own_lt how); have hbw1 := hb3.trans (hb1.mono (by omega)); obtain ⟨⟨ap0, ap1, ap2, ap3, ap4, ap5, ap6⟩, afp, alp⟩ := HA1.out.facts; dsimp only at ap0 ap1 ap2 ap3 ap4 ap5 ap6; obtain ⟨⟨cp0, cp1, cp2, cp3⟩, clp⟩ := HC1.out.facts; dsimp only at cp0 cp1 cp2 cp3; obtain ⟨⟨zp0, zp1, zp2, zp3, zp4, zp5, zp6⟩, zfp, zlp⟩ := HZ1.out.facts))
   | (go_at_call 37; refine (HK.out _ (hs1.alloc _)).mono ?_; rintro e w2 ⟨rfl, hb2⟩; have hs2 := (hs1.alloc _).below hb2; have HSW2 := hid ((HSW.out.alloc _).below hb2); have hz2 := hb2.size; simp only [World.size_alloc] at hz2; have HA2 := hid ((HA1.out.alloc _).below hb2); have HC2 := hid ((HC1.out.alloc _).below hb2); have HZ2 := hid ((HZ1.out.alloc _).below hb2); have HW2 := hid ((ceblk_new w1 ⟨2, n, owner, need, came, turns, there⟩ pw cw).below hb2); have hbw2 := (hbw1.alloc (by omega) _).trans (hb2.mono (by simp; omega)); obtain ⟨⟨aq0, aq1, aq2, aq3, aq4, aq5, aq6⟩, afq, alq⟩ := HA2.out.facts; dsimp only at aq0 aq1 aq2 aq3 aq4 aq5 aq6; obtain ⟨⟨cq0, cq1, cq2, cq3⟩, clq⟩ := HC2.out.facts; dsimp only at cq0 cq1 cq2 cq3; obtain ⟨⟨zq0, zq1, zq2, zq3, zq4, zq5, zq6⟩, zfq, zlq⟩ := HZ2.out.facts; obtain ⟨⟨wq0, wq1, wq2, wq3, wq4, wq5, wq6⟩, wfq, wlq⟩ := HW2.out.facts; dsimp only at wq0 wq1 wq2 wq3 wq4 wq5 wq6)
   | (go_at_call 59; refine (HIW.out _).mono ?_; rintro e w8 ⟨rfl, rfl⟩)
   | (go_at_call 73; refine (HSTEP.out w3 w2 px cx HOX.out (by omega)).mono ?_; rintro e w4 ⟨rfl, ⟨p4, c4, hk4, hs4, hge4⟩, hb4⟩; have HK4 := hid hk4; have HSW4 := hid ((HSW3.out.alloc _).belowB hb4 (fun q hq => by have := HPW.out q.block (by subst hq; rfl); omega)); have HZ4 := hid ((HZ3.out.alloc _).belowB hb4 (by omega)); have HW4 := hid ((HW3'.out.alloc _).belowB hb4 (by omega)); have hbw4 := (hbw3.alloc (by omega) _).trans (hb4.mono (by omega)); obtain ⟨⟨z40, z41, z42, z43, z44, z45, z46⟩, zf4, zl4⟩ := HZ4.out.facts; obtain ⟨⟨w40, w41, w42, w43, w44, w45, w46⟩, wf4, wl4⟩ := HW4.out.facts; dsimp only at w40 w41 w42 w43 w44 w45 w46; obtain ⟨⟨x40, x41, x42, x43, x44, x45, x46⟩, xf4, xl4⟩ := HK4.out.facts))
  have HNE : Hid (∀ q, pw = some q → q.block ≠ w.heap.size + 1 + 1) := fun q hq e => by have := own_ge how q.block (by subst hq; rfl); omega
  exact bodyPost_ret (v := .tuple #[(Ce.mk 2 n owner need came turns there).val pw cw, i64 0, i64 E]) (by simp [results, Tryz.results65, go_sem, Ce.val, w40, w41, w42, w43, w44, w45, w46, z40, z41, z42, z43, z44, z45, z46]) rfl (by
   rw [HP.out]
   refine ⟨pw, cw, rfl, ?_, fun q hq => ⟨by have := own_ge how q.block (by subst hq; rfl); omega, by have h2 := HPW.out q.block (by subst hq; rfl); have h4 := hb4.size; simp at h4; simp; omega⟩, ?_⟩
   ·repeat (refine SlAt.set ?_ _ _ _ HNE.out)
    exact HSW4.out
   ·repeat (refine Below.setCell ?_ (by simp; omega) _)
    exact hbw4)
set_option maxHeartbeats 4000000 in
theorem one_3 (x : Ce) (p : Option Addr) (c : Nat) (wk : Int) (a : Ac) (w : World) (hsl : SlAt w p c x.came) (hm : x.came.length ≤ 17592186043904) (hk : x.kind = 3) (hok : okP x = true) (hw : isW wk = true) :
  Calls Tryz.prog 65 #[x.val p c, i64 wk, a.val] w (CeTellL (oneP x wk a).1 [i64 (oneP x wk a).2.1, i64 (oneP x wk a).2.2] w) := by
 obtain ⟨kind, n, owner, need, came, turns, there⟩ := x
 dsimp only at hk
 subst hk
 obtain ⟨ak, ac, ao, an⟩ := a
 dsimp only at hsl hm
 unfold Ce.val Ac.val
 dsimp only
 have HC := hid (fun w1 (h : SlAt w1 p c came) =>
  show Calls Tryz.prog 38 #[.agg #[i64 3, i64 n, i64 owner, i64 need, .slice p came.length c, i64 turns, .bool there]] w1 (fun e w' => ∃ pw cw, e = .returned (.agg #[i64 3, i64 n, i64 owner, i64 need, .slice pw came.length cw, i64 turns, .bool there]) ∧ w'.ownsRow w1.heap.size 3 1 (.slice pw came.length cw) came.length (i64s came) ∧ Below w1.heap.size w1 w') from copied_any ⟨3, n, owner, need, came, turns, there⟩ p c w1 hm h)
 have HK := hid (fun w1 (h : SlAt w1 p c came) => check_any ⟨3, n, owner, need, came, turns, there⟩ p c w1 h hm)
 unfold Ce.val at HK
 dsimp only at HK
 obtain ⟨W3, hW3⟩ : ∃ W3, W3 = ((w.alloc (.cells #[i64 3, i64 n, i64 owner, i64 need, .slice p came.length c, i64 turns, .bool there] 61)).alloc (.cells #[i64 ak, i64 ac, i64 ao, i64 an] 75)).alloc (.cells #[.int .i64 0, .int .i64 0, .int .i64 0, .int .i64 0, .slice none 0 0, .int .i64 0, .bool false] 61) := ⟨_, rfl⟩
 have HST3 := hid (one_start w ⟨3, n, owner, need, came, turns, there⟩ p c ⟨ak, ac, ao, an⟩ W3 hW3)
 have hs3 : SlAt W3 p c came := by rw [hW3]; exact ((hsl.alloc _).alloc _).alloc _
 have hb3 : Below w.heap.size w W3 := by rw [hW3]; exact (((Below.refl _ _).alloc (Nat.le_refl _) _).alloc (by simp) _).alloc (by simp; omega) _
 have hz3 : w.heap.size + 3 = W3.heap.size := by rw [hW3]; simp
 have HW3 := hid hW3
 have HZ3 := hid hz3
 have hz3 : w.heap.size + 3 ≤ W3.heap.size := by omega
 clear hW3 HZ3
 have hgt : 0 ≤ turns ∧ turns ≤ 1152921504606846976 ∧ came.length ≤ 64 := by
  simp [okP, gateP, gateHead] at hok
  omega
 obtain ⟨ht0, ht1, hl64⟩ := hgt
 have HSTEP := hid (fun (w3 w2 : World) (px : Option Addr) (cx : Nat) (ho : w3.ownsRow w2.heap.size 3 1 (.slice px came.length cx) came.length (i64s came)) (hw : w2.heap.size ≤ w3.heap.size) =>
  show Calls Tryz.prog 74 #[.pointer (some ⟨w3.heap.size, 0, none⟩), i64 wk, .agg #[i64 ak, i64 ac, i64 ao, i64 an]] (w3.alloc (.cells #[i64 3, i64 n, i64 owner, i64 need, .slice px came.length cx, i64 turns, .bool there] 61)) (fun e w' => e = .returned (.tuple #[i64 (stepP ⟨3, n, owner, need, came, turns, there⟩ wk ⟨ak, ac, ao, an⟩).2.1, i64 (stepP ⟨3, n, owner, need, came, turns, there⟩ wk ⟨ak, ac, ao, an⟩).2.2]) ∧ (∃ p c, CeBlk w' w3.heap.size (stepP ⟨3, n, owner, need, came, turns, there⟩ wk ⟨ak, ac, ao, an⟩).1 p c ∧ SlAt w' p c (stepP ⟨3, n, owner, need, came, turns, there⟩ wk ⟨ak, ac, ao, an⟩).1.came ∧ ∀ q, p = some q → w2.heap.size ≤ q.block ∧ q.block < w'.heap.size) ∧ Below w2.heap.size (w3.alloc (.cells #[i64 3, i64 n, i64 owner, i64 need, .slice px came.length cx, i64 turns, .bool there] 61)) w') from barrier_any ⟨3, n, owner, need, came, turns, there⟩ rfl wk ⟨ak, ac, ao, an⟩ w2.heap.size w3.heap.size px cx _ (ceblk_new w3 ⟨3, n, owner, need, came, turns, there⟩ px cx) (ho.alloc _) (fun q hq e => by have := own_lt ho q.block (by subst hq; rfl); omega) hw ht0 ht1 hl64)
 have hck : ckP ⟨3, n, owner, need, came, turns, there⟩ = 0 := by simp [ckP, hok]
 have HIW := hid (isW_any wk)
 have HP0 : Hid (oneP ⟨3, n, owner, need, came, turns, there⟩ wk ⟨ak, ac, ao, an⟩ = stepP ⟨3, n, owner, need, came, turns, there⟩ wk ⟨ak, ac, ao, an⟩) := by simp [Hid, oneP, hok, hw]
 rw [hck] at HK
 rw [hw] at HIW
 have HERR := hid (stepP_err ⟨3, n, owner, need, came, turns, there⟩ wk ⟨ak, ac, ao, an⟩)
 obtain ⟨R, hR⟩ : ∃ R, R = stepP ⟨3, n, owner, need, came, turns, there⟩ wk ⟨ak, ac, ao, an⟩ := ⟨_, rfl⟩
 rw [← hR] at HSTEP HP0 HERR
 clear hok hck hw hR
 obtain ⟨X4, V, E⟩ := R
 dsimp only at HSTEP HERR
 by_cases hE : E = 0
 ·subst hE
  have HP := HP0
  clear HERR HP0
  go_enter Tryz.func65, Tryz.ntmps65
  go_wp2_with (first
   | (go_at_call 38; first
    | (refine (HC.out _ hs2).mono ?_; rintro e w3 ⟨px, cx, rfl, hox, hb3'⟩; have HOX := hid hox; have HSW3 := hid (HSW2.out.below hb3'); have hz3' := hb3'.size; have HA3 := hid (HA2.out.below hb3'); have HC3 := hid (HC2.out.below hb3'); have HZ3 := hid (HZ2.out.below hb3'); have HW3' := hid (HW2.out.below hb3'); have HPX := hid (fun q (hq : px = some q) => own_lt hox q.block (by subst hq; rfl)); have hbw3 := hbw2.trans (hb3'.mono (by omega)); obtain ⟨⟨ar0, ar1, ar2, ar3, ar4, ar5, ar6⟩, afr, alr⟩ := HA3.out.facts; dsimp only at ar0 ar1 ar2 ar3 ar4 ar5 ar6; obtain ⟨⟨cr0, cr1, cr2, cr3⟩, clr⟩ := HC3.out.facts; dsimp only at cr0 cr1 cr2 cr3; obtain ⟨⟨zr0, zr1, zr2, zr3, zr4, zr5, zr6⟩, zfr, zlr⟩ := HZ3.out.facts; obtain ⟨⟨wr0, wr1, wr2, wr3, wr4, wr5, wr6⟩, wfr, wlr⟩ := HW3'.out.facts; dsimp only at wr0 wr1 wr2 wr3 wr4 wr5 wr6)
    | (rw [← HW3.out]; refine (HC.out _ hs3).mono ?_; rintro e w1 ⟨pw, cw, rfl, how, hb1⟩; have hs1 := hs3.below hb1; have HSW := hid (own_slat how); have hz1 := hb1.size; have HA1 := hid (HST3.out.1.below hb1); have HC1 := hid (HST3.out.2.1.below hb1); have HZ1 := hid (HST3.out.2.2.below hb1); have HPW := hid (own_lt how); have hbw1 := hb3.trans (hb1.mono (by omega)); obtain ⟨⟨ap0, ap1, ap2, ap3, ap4, ap5, ap6⟩, afp, alp⟩ := HA1.out.facts; dsimp only at ap0 ap1 ap2 ap3 ap4 ap5 ap6; obtain ⟨⟨cp0, cp1, cp2, cp3⟩, clp⟩ := HC1.out.facts; dsimp only at cp0 cp1 cp2 cp3; obtain ⟨⟨zp0, zp1, zp2, zp3, zp4, zp5, zp6⟩, zfp, zlp⟩ := HZ1.out.facts))
   | (go_at_call 37; refine (HK.out _ (hs1.alloc _)).mono ?_; rintro e w2 ⟨rfl, hb2⟩; have hs2 := (hs1.alloc _).below hb2; have HSW2 := hid ((HSW.out.alloc _).below hb2); have hz2 := hb2.size; simp only [World.size_alloc] at hz2; have HA2 := hid ((HA1.out.alloc _).below hb2); have HC2 := hid ((HC1.out.alloc _).below hb2); have HZ2 := hid ((HZ1.out.alloc _).below hb2); have HW2 := hid ((ceblk_new w1 ⟨3, n, owner, need, came, turns, there⟩ pw cw).below hb2); have hbw2 := (hbw1.alloc (by omega) _).trans (hb2.mono (by simp; omega)); obtain ⟨⟨aq0, aq1, aq2, aq3, aq4, aq5, aq6⟩, afq, alq⟩ := HA2.out.facts; dsimp only at aq0 aq1 aq2 aq3 aq4 aq5 aq6; obtain ⟨⟨cq0, cq1, cq2, cq3⟩, clq⟩ := HC2.out.facts; dsimp only at cq0 cq1 cq2 cq3; obtain ⟨⟨zq0, zq1, zq2, zq3, zq4, zq5, zq6⟩, zfq, zlq⟩ := HZ2.out.facts; obtain ⟨⟨wq0, wq1, wq2, wq3, wq4, wq5, wq6⟩, wfq, wlq⟩ := HW2.out.facts; dsimp only at wq0 wq1 wq2 wq3 wq4 wq5 wq6)
   | (go_at_call 59; refine (HIW.out _).mono ?_; rintro e w8 ⟨rfl, rfl⟩)
   | (go_at_call 74; refine (HSTEP.out w3 w2 px cx HOX.out (by omega)).mono ?_; rintro e w4 ⟨rfl, ⟨p4, c4, hk4, hs4, hge4⟩, hb4⟩; have HK4 := hid hk4; have HSW4 := hid ((HSW3.out.alloc _).belowB hb4 (fun q hq => by have := HPW.out q.block (by subst hq; rfl); omega)); have HZ4 := hid ((HZ3.out.alloc _).belowB hb4 (by omega)); have HW4 := hid ((HW3'.out.alloc _).belowB hb4 (by omega)); have hbw4 := (hbw3.alloc (by omega) _).trans (hb4.mono (by omega)); obtain ⟨⟨z40, z41, z42, z43, z44, z45, z46⟩, zf4, zl4⟩ := HZ4.out.facts; obtain ⟨⟨w40, w41, w42, w43, w44, w45, w46⟩, wf4, wl4⟩ := HW4.out.facts; dsimp only at w40 w41 w42 w43 w44 w45 w46; obtain ⟨⟨x40, x41, x42, x43, x44, x45, x46⟩, xf4, xl4⟩ := HK4.out.facts))
  have HNE : Hid (∀ q, p4 = some q → q.block ≠ w.heap.size + 1 + 1) := fun q hq e => by have := (hge4 q hq).1; omega
  exact bodyPost_ret (v := .tuple #[(X4).val p4 c4, i64 V, i64 0]) (by simp [results, Tryz.results65, go_sem, Ce.val, x40, x41, x42, x43, x44, x45, x46, z40, z41, z42, z43, z44, z45, z46]) rfl (by
   rw [HP.out]
   refine ⟨p4, c4, rfl, ?_, fun q hq => ⟨by have := (hge4 q hq).1; omega, by have := (hge4 q hq).2; simp; omega⟩, ?_⟩
   ·repeat (refine SlAt.set ?_ _ _ _ HNE.out)
    exact hs4
   ·repeat (refine Below.setCell ?_ (by simp; omega) _)
    exact hbw4)
 ·obtain ⟨hX, hV⟩ := HERR.out hE
  subst hX hV
  have HP := HP0
  have hne : (E != 0) = true := by simpa using hE
  clear HERR HP0 hE
  go_enter Tryz.func65, Tryz.ntmps65
  go_wp2_with (first
   | (go_at_call 38; first
    | (refine (HC.out _ hs2).mono ?_; rintro e w3 ⟨px, cx, rfl, hox, hb3'⟩; have HOX := hid hox; have HSW3 := hid (HSW2.out.below hb3'); have hz3' := hb3'.size; have HA3 := hid (HA2.out.below hb3'); have HC3 := hid (HC2.out.below hb3'); have HZ3 := hid (HZ2.out.below hb3'); have HW3' := hid (HW2.out.below hb3'); have HPX := hid (fun q (hq : px = some q) => own_lt hox q.block (by subst hq; rfl)); have hbw3 := hbw2.trans (hb3'.mono (by omega)); obtain ⟨⟨ar0, ar1, ar2, ar3, ar4, ar5, ar6⟩, afr, alr⟩ := HA3.out.facts; dsimp only at ar0 ar1 ar2 ar3 ar4 ar5 ar6; obtain ⟨⟨cr0, cr1, cr2, cr3⟩, clr⟩ := HC3.out.facts; dsimp only at cr0 cr1 cr2 cr3; obtain ⟨⟨zr0, zr1, zr2, zr3, zr4, zr5, zr6⟩, zfr, zlr⟩ := HZ3.out.facts; obtain ⟨⟨wr0, wr1, wr2, wr3, wr4, wr5, wr6⟩, wfr, wlr⟩ := HW3'.out.facts; dsimp only at wr0 wr1 wr2 wr3 wr4 wr5 wr6)
    | (rw [← HW3.out]; refine (HC.out _ hs3).mono ?_; rintro e w1 ⟨pw, cw, rfl, how, hb1⟩; have hs1 := hs3.below hb1; have HSW := hid (own_slat how); have hz1 := hb1.size; have HA1 := hid (HST3.out.1.below hb1); have HC1 := hid (HST3.out.2.1.below hb1); have HZ1 := hid (HST3.out.2.2.below hb1); have HPW := hid (own_lt how); have hbw1 := hb3.trans (hb1.mono (by omega)); obtain ⟨⟨ap0, ap1, ap2, ap3, ap4, ap5, ap6⟩, afp, alp⟩ := HA1.out.facts; dsimp only at ap0 ap1 ap2 ap3 ap4 ap5 ap6; obtain ⟨⟨cp0, cp1, cp2, cp3⟩, clp⟩ := HC1.out.facts; dsimp only at cp0 cp1 cp2 cp3; obtain ⟨⟨zp0, zp1, zp2, zp3, zp4, zp5, zp6⟩, zfp, zlp⟩ := HZ1.out.facts))
   | (go_at_call 37; refine (HK.out _ (hs1.alloc _)).mono ?_; rintro e w2 ⟨rfl, hb2⟩; have hs2 := (hs1.alloc _).below hb2; have HSW2 := hid ((HSW.out.alloc _).below hb2); have hz2 := hb2.size; simp only [World.size_alloc] at hz2; have HA2 := hid ((HA1.out.alloc _).below hb2); have HC2 := hid ((HC1.out.alloc _).below hb2); have HZ2 := hid ((HZ1.out.alloc _).below hb2); have HW2 := hid ((ceblk_new w1 ⟨3, n, owner, need, came, turns, there⟩ pw cw).below hb2); have hbw2 := (hbw1.alloc (by omega) _).trans (hb2.mono (by simp; omega)); obtain ⟨⟨aq0, aq1, aq2, aq3, aq4, aq5, aq6⟩, afq, alq⟩ := HA2.out.facts; dsimp only at aq0 aq1 aq2 aq3 aq4 aq5 aq6; obtain ⟨⟨cq0, cq1, cq2, cq3⟩, clq⟩ := HC2.out.facts; dsimp only at cq0 cq1 cq2 cq3; obtain ⟨⟨zq0, zq1, zq2, zq3, zq4, zq5, zq6⟩, zfq, zlq⟩ := HZ2.out.facts; obtain ⟨⟨wq0, wq1, wq2, wq3, wq4, wq5, wq6⟩, wfq, wlq⟩ := HW2.out.facts; dsimp only at wq0 wq1 wq2 wq3 wq4 wq5 wq6)
   | (go_at_call 59; refine (HIW.out _).mono ?_; rintro e w8 ⟨rfl, rfl⟩)
   | (go_at_call 74; refine (HSTEP.out w3 w2 px cx HOX.out (by omega)).mono ?_; rintro e w4 ⟨rfl, ⟨p4, c4, hk4, hs4, hge4⟩, hb4⟩; have HK4 := hid hk4; have HSW4 := hid ((HSW3.out.alloc _).belowB hb4 (fun q hq => by have := HPW.out q.block (by subst hq; rfl); omega)); have HZ4 := hid ((HZ3.out.alloc _).belowB hb4 (by omega)); have HW4 := hid ((HW3'.out.alloc _).belowB hb4 (by omega)); have hbw4 := (hbw3.alloc (by omega) _).trans (hb4.mono (by omega)); obtain ⟨⟨z40, z41, z42, z43, z44, z45, z46⟩, zf4, zl4⟩ := HZ4.out.facts; obtain ⟨⟨w40, w41, w42, w43, w44, w45, w46⟩, wf4, wl4⟩ := HW4.out.facts; dsimp only at w40 w41 w42 w43 w44 w45 w46; obtain ⟨⟨x40, x41, x42, x43, x44, x45, x46⟩, xf4, xl4⟩ := HK4.out.facts))
  have HNE : Hid (∀ q, pw = some q → q.block ≠ w.heap.size + 1 + 1) := fun q hq e => by have := own_ge how q.block (by subst hq; rfl); omega
  exact bodyPost_ret (v := .tuple #[(Ce.mk 3 n owner need came turns there).val pw cw, i64 0, i64 E]) (by simp [results, Tryz.results65, go_sem, Ce.val, w40, w41, w42, w43, w44, w45, w46, z40, z41, z42, z43, z44, z45, z46]) rfl (by
   rw [HP.out]
   refine ⟨pw, cw, rfl, ?_, fun q hq => ⟨by have := own_ge how q.block (by subst hq; rfl); omega, by have h2 := HPW.out q.block (by subst hq; rfl); have h4 := hb4.size; simp at h4; simp; omega⟩, ?_⟩
   ·repeat (refine SlAt.set ?_ _ _ _ HNE.out)
    exact HSW4.out
   ·repeat (refine Below.setCell ?_ (by simp; omega) _)
    exact hbw4)
set_option maxHeartbeats 4000000 in
theorem one_4 (x : Ce) (p : Option Addr) (c : Nat) (wk : Int) (a : Ac) (w : World) (hsl : SlAt w p c x.came) (hm : x.came.length ≤ 17592186043904) (hk : x.kind = 4) (hok : okP x = true) (hw : isW wk = true) :
  Calls Tryz.prog 65 #[x.val p c, i64 wk, a.val] w (CeTellL (oneP x wk a).1 [i64 (oneP x wk a).2.1, i64 (oneP x wk a).2.2] w) := by
 obtain ⟨kind, n, owner, need, came, turns, there⟩ := x
 dsimp only at hk
 subst hk
 obtain ⟨ak, ac, ao, an⟩ := a
 dsimp only at hsl hm
 unfold Ce.val Ac.val
 dsimp only
 have HC := hid (fun w1 (h : SlAt w1 p c came) =>
  show Calls Tryz.prog 38 #[.agg #[i64 4, i64 n, i64 owner, i64 need, .slice p came.length c, i64 turns, .bool there]] w1 (fun e w' => ∃ pw cw, e = .returned (.agg #[i64 4, i64 n, i64 owner, i64 need, .slice pw came.length cw, i64 turns, .bool there]) ∧ w'.ownsRow w1.heap.size 3 1 (.slice pw came.length cw) came.length (i64s came) ∧ Below w1.heap.size w1 w') from copied_any ⟨4, n, owner, need, came, turns, there⟩ p c w1 hm h)
 have HK := hid (fun w1 (h : SlAt w1 p c came) => check_any ⟨4, n, owner, need, came, turns, there⟩ p c w1 h hm)
 unfold Ce.val at HK
 dsimp only at HK
 obtain ⟨W3, hW3⟩ : ∃ W3, W3 = ((w.alloc (.cells #[i64 4, i64 n, i64 owner, i64 need, .slice p came.length c, i64 turns, .bool there] 61)).alloc (.cells #[i64 ak, i64 ac, i64 ao, i64 an] 75)).alloc (.cells #[.int .i64 0, .int .i64 0, .int .i64 0, .int .i64 0, .slice none 0 0, .int .i64 0, .bool false] 61) := ⟨_, rfl⟩
 have HST3 := hid (one_start w ⟨4, n, owner, need, came, turns, there⟩ p c ⟨ak, ac, ao, an⟩ W3 hW3)
 have hs3 : SlAt W3 p c came := by rw [hW3]; exact ((hsl.alloc _).alloc _).alloc _
 have hb3 : Below w.heap.size w W3 := by rw [hW3]; exact (((Below.refl _ _).alloc (Nat.le_refl _) _).alloc (by simp) _).alloc (by simp; omega) _
 have hz3 : w.heap.size + 3 = W3.heap.size := by rw [hW3]; simp
 have HW3 := hid hW3
 have HZ3 := hid hz3
 have hz3 : w.heap.size + 3 ≤ W3.heap.size := by omega
 clear hW3 HZ3
 have HSTEP := hid (fun (w3 w2 : World) (px : Option Addr) (cx : Nat) (ho : w3.ownsRow w2.heap.size 3 1 (.slice px came.length cx) came.length (i64s came)) (hw : w2.heap.size ≤ w3.heap.size) =>
  show Calls Tryz.prog 75 #[.pointer (some ⟨w3.heap.size, 0, none⟩), .agg #[i64 ak, i64 ac, i64 ao, i64 an]] (w3.alloc (.cells #[i64 4, i64 n, i64 owner, i64 need, .slice px came.length cx, i64 turns, .bool there] 61)) (fun e w' => e = .returned (.tuple #[i64 (stepP ⟨4, n, owner, need, came, turns, there⟩ wk ⟨ak, ac, ao, an⟩).2.1, i64 (stepP ⟨4, n, owner, need, came, turns, there⟩ wk ⟨ak, ac, ao, an⟩).2.2]) ∧ (∃ p c, CeBlk w' w3.heap.size (stepP ⟨4, n, owner, need, came, turns, there⟩ wk ⟨ak, ac, ao, an⟩).1 p c ∧ SlAt w' p c (stepP ⟨4, n, owner, need, came, turns, there⟩ wk ⟨ak, ac, ao, an⟩).1.came ∧ ∀ q, p = some q → w2.heap.size ≤ q.block ∧ q.block < w'.heap.size) ∧ Below w2.heap.size (w3.alloc (.cells #[i64 4, i64 n, i64 owner, i64 need, .slice px came.length cx, i64 turns, .bool there] 61)) w') from (future_any ⟨4, n, owner, need, came, turns, there⟩ rfl wk ⟨ak, ac, ao, an⟩ w3.heap.size px cx _ (ceblk_new w3 ⟨4, n, owner, need, came, turns, there⟩ px cx) ((own_slat ho).alloc _) (fun q hq e => by have := own_lt ho q.block (by subst hq; rfl); omega)).mono (fun e w' h => h.toB (fun q hq => ⟨own_ge ho q.block (by subst hq; rfl), by have := own_lt ho q.block (by subst hq; rfl); simp; omega⟩) hw (by simp; omega)))
 have hck : ckP ⟨4, n, owner, need, came, turns, there⟩ = 0 := by simp [ckP, hok]
 have HIW := hid (isW_any wk)
 have HP0 : Hid (oneP ⟨4, n, owner, need, came, turns, there⟩ wk ⟨ak, ac, ao, an⟩ = stepP ⟨4, n, owner, need, came, turns, there⟩ wk ⟨ak, ac, ao, an⟩) := by simp [Hid, oneP, hok, hw]
 rw [hck] at HK
 rw [hw] at HIW
 have HERR := hid (stepP_err ⟨4, n, owner, need, came, turns, there⟩ wk ⟨ak, ac, ao, an⟩)
 obtain ⟨R, hR⟩ : ∃ R, R = stepP ⟨4, n, owner, need, came, turns, there⟩ wk ⟨ak, ac, ao, an⟩ := ⟨_, rfl⟩
 rw [← hR] at HSTEP HP0 HERR
 clear hok hck hw hR
 obtain ⟨X4, V, E⟩ := R
 dsimp only at HSTEP HERR
 by_cases hE : E = 0
 ·subst hE
  have HP := HP0
  clear HERR HP0
  go_enter Tryz.func65, Tryz.ntmps65
  go_wp2_with (first
   | (go_at_call 38; first
    | (refine (HC.out _ hs2).mono ?_; rintro e w3 ⟨px, cx, rfl, hox, hb3'⟩; have HOX := hid hox; have HSW3 := hid (HSW2.out.below hb3'); have hz3' := hb3'.size; have HA3 := hid (HA2.out.below hb3'); have HC3 := hid (HC2.out.below hb3'); have HZ3 := hid (HZ2.out.below hb3'); have HW3' := hid (HW2.out.below hb3'); have HPX := hid (fun q (hq : px = some q) => own_lt hox q.block (by subst hq; rfl)); have hbw3 := hbw2.trans (hb3'.mono (by omega)); obtain ⟨⟨ar0, ar1, ar2, ar3, ar4, ar5, ar6⟩, afr, alr⟩ := HA3.out.facts; dsimp only at ar0 ar1 ar2 ar3 ar4 ar5 ar6; obtain ⟨⟨cr0, cr1, cr2, cr3⟩, clr⟩ := HC3.out.facts; dsimp only at cr0 cr1 cr2 cr3; obtain ⟨⟨zr0, zr1, zr2, zr3, zr4, zr5, zr6⟩, zfr, zlr⟩ := HZ3.out.facts; obtain ⟨⟨wr0, wr1, wr2, wr3, wr4, wr5, wr6⟩, wfr, wlr⟩ := HW3'.out.facts; dsimp only at wr0 wr1 wr2 wr3 wr4 wr5 wr6)
    | (rw [← HW3.out]; refine (HC.out _ hs3).mono ?_; rintro e w1 ⟨pw, cw, rfl, how, hb1⟩; have hs1 := hs3.below hb1; have HSW := hid (own_slat how); have hz1 := hb1.size; have HA1 := hid (HST3.out.1.below hb1); have HC1 := hid (HST3.out.2.1.below hb1); have HZ1 := hid (HST3.out.2.2.below hb1); have HPW := hid (own_lt how); have hbw1 := hb3.trans (hb1.mono (by omega)); obtain ⟨⟨ap0, ap1, ap2, ap3, ap4, ap5, ap6⟩, afp, alp⟩ := HA1.out.facts; dsimp only at ap0 ap1 ap2 ap3 ap4 ap5 ap6; obtain ⟨⟨cp0, cp1, cp2, cp3⟩, clp⟩ := HC1.out.facts; dsimp only at cp0 cp1 cp2 cp3; obtain ⟨⟨zp0, zp1, zp2, zp3, zp4, zp5, zp6⟩, zfp, zlp⟩ := HZ1.out.facts))
   | (go_at_call 37; refine (HK.out _ (hs1.alloc _)).mono ?_; rintro e w2 ⟨rfl, hb2⟩; have hs2 := (hs1.alloc _).below hb2; have HSW2 := hid ((HSW.out.alloc _).below hb2); have hz2 := hb2.size; simp only [World.size_alloc] at hz2; have HA2 := hid ((HA1.out.alloc _).below hb2); have HC2 := hid ((HC1.out.alloc _).below hb2); have HZ2 := hid ((HZ1.out.alloc _).below hb2); have HW2 := hid ((ceblk_new w1 ⟨4, n, owner, need, came, turns, there⟩ pw cw).below hb2); have hbw2 := (hbw1.alloc (by omega) _).trans (hb2.mono (by simp; omega)); obtain ⟨⟨aq0, aq1, aq2, aq3, aq4, aq5, aq6⟩, afq, alq⟩ := HA2.out.facts; dsimp only at aq0 aq1 aq2 aq3 aq4 aq5 aq6; obtain ⟨⟨cq0, cq1, cq2, cq3⟩, clq⟩ := HC2.out.facts; dsimp only at cq0 cq1 cq2 cq3; obtain ⟨⟨zq0, zq1, zq2, zq3, zq4, zq5, zq6⟩, zfq, zlq⟩ := HZ2.out.facts; obtain ⟨⟨wq0, wq1, wq2, wq3, wq4, wq5, wq6⟩, wfq, wlq⟩ := HW2.out.facts; dsimp only at wq0 wq1 wq2 wq3 wq4 wq5 wq6)
   | (go_at_call 59; refine (HIW.out _).mono ?_; rintro e w8 ⟨rfl, rfl⟩)
   | (go_at_call 75; refine (HSTEP.out w3 w2 px cx HOX.out (by omega)).mono ?_; rintro e w4 ⟨rfl, ⟨p4, c4, hk4, hs4, hge4⟩, hb4⟩; have HK4 := hid hk4; have HSW4 := hid ((HSW3.out.alloc _).belowB hb4 (fun q hq => by have := HPW.out q.block (by subst hq; rfl); omega)); have HZ4 := hid ((HZ3.out.alloc _).belowB hb4 (by omega)); have HW4 := hid ((HW3'.out.alloc _).belowB hb4 (by omega)); have hbw4 := (hbw3.alloc (by omega) _).trans (hb4.mono (by omega)); obtain ⟨⟨z40, z41, z42, z43, z44, z45, z46⟩, zf4, zl4⟩ := HZ4.out.facts; obtain ⟨⟨w40, w41, w42, w43, w44, w45, w46⟩, wf4, wl4⟩ := HW4.out.facts; dsimp only at w40 w41 w42 w43 w44 w45 w46; obtain ⟨⟨x40, x41, x42, x43, x44, x45, x46⟩, xf4, xl4⟩ := HK4.out.facts))
  have HNE : Hid (∀ q, p4 = some q → q.block ≠ w.heap.size + 1 + 1) := fun q hq e => by have := (hge4 q hq).1; omega
  exact bodyPost_ret (v := .tuple #[(X4).val p4 c4, i64 V, i64 0]) (by simp [results, Tryz.results65, go_sem, Ce.val, x40, x41, x42, x43, x44, x45, x46, z40, z41, z42, z43, z44, z45, z46]) rfl (by
   rw [HP.out]
   refine ⟨p4, c4, rfl, ?_, fun q hq => ⟨by have := (hge4 q hq).1; omega, by have := (hge4 q hq).2; simp; omega⟩, ?_⟩
   ·repeat (refine SlAt.set ?_ _ _ _ HNE.out)
    exact hs4
   ·repeat (refine Below.setCell ?_ (by simp; omega) _)
    exact hbw4)
 ·obtain ⟨hX, hV⟩ := HERR.out hE
  subst hX hV
  have HP := HP0
  have hne : (E != 0) = true := by simpa using hE
  clear HERR HP0 hE
  go_enter Tryz.func65, Tryz.ntmps65
  go_wp2_with (first
   | (go_at_call 38; first
    | (refine (HC.out _ hs2).mono ?_; rintro e w3 ⟨px, cx, rfl, hox, hb3'⟩; have HOX := hid hox; have HSW3 := hid (HSW2.out.below hb3'); have hz3' := hb3'.size; have HA3 := hid (HA2.out.below hb3'); have HC3 := hid (HC2.out.below hb3'); have HZ3 := hid (HZ2.out.below hb3'); have HW3' := hid (HW2.out.below hb3'); have HPX := hid (fun q (hq : px = some q) => own_lt hox q.block (by subst hq; rfl)); have hbw3 := hbw2.trans (hb3'.mono (by omega)); obtain ⟨⟨ar0, ar1, ar2, ar3, ar4, ar5, ar6⟩, afr, alr⟩ := HA3.out.facts; dsimp only at ar0 ar1 ar2 ar3 ar4 ar5 ar6; obtain ⟨⟨cr0, cr1, cr2, cr3⟩, clr⟩ := HC3.out.facts; dsimp only at cr0 cr1 cr2 cr3; obtain ⟨⟨zr0, zr1, zr2, zr3, zr4, zr5, zr6⟩, zfr, zlr⟩ := HZ3.out.facts; obtain ⟨⟨wr0, wr1, wr2, wr3, wr4, wr5, wr6⟩, wfr, wlr⟩ := HW3'.out.facts; dsimp only at wr0 wr1 wr2 wr3 wr4 wr5 wr6)
    | (rw [← HW3.out]; refine (HC.out _ hs3).mono ?_; rintro e w1 ⟨pw, cw, rfl, how, hb1⟩; have hs1 := hs3.below hb1; have HSW := hid (own_slat how); have hz1 := hb1.size; have HA1 := hid (HST3.out.1.below hb1); have HC1 := hid (HST3.out.2.1.below hb1); have HZ1 := hid (HST3.out.2.2.below hb1); have HPW := hid (own_lt how); have hbw1 := hb3.trans (hb1.mono (by omega)); obtain ⟨⟨ap0, ap1, ap2, ap3, ap4, ap5, ap6⟩, afp, alp⟩ := HA1.out.facts; dsimp only at ap0 ap1 ap2 ap3 ap4 ap5 ap6; obtain ⟨⟨cp0, cp1, cp2, cp3⟩, clp⟩ := HC1.out.facts; dsimp only at cp0 cp1 cp2 cp3; obtain ⟨⟨zp0, zp1, zp2, zp3, zp4, zp5, zp6⟩, zfp, zlp⟩ := HZ1.out.facts))
   | (go_at_call 37; refine (HK.out _ (hs1.alloc _)).mono ?_; rintro e w2 ⟨rfl, hb2⟩; have hs2 := (hs1.alloc _).below hb2; have HSW2 := hid ((HSW.out.alloc _).below hb2); have hz2 := hb2.size; simp only [World.size_alloc] at hz2; have HA2 := hid ((HA1.out.alloc _).below hb2); have HC2 := hid ((HC1.out.alloc _).below hb2); have HZ2 := hid ((HZ1.out.alloc _).below hb2); have HW2 := hid ((ceblk_new w1 ⟨4, n, owner, need, came, turns, there⟩ pw cw).below hb2); have hbw2 := (hbw1.alloc (by omega) _).trans (hb2.mono (by simp; omega)); obtain ⟨⟨aq0, aq1, aq2, aq3, aq4, aq5, aq6⟩, afq, alq⟩ := HA2.out.facts; dsimp only at aq0 aq1 aq2 aq3 aq4 aq5 aq6; obtain ⟨⟨cq0, cq1, cq2, cq3⟩, clq⟩ := HC2.out.facts; dsimp only at cq0 cq1 cq2 cq3; obtain ⟨⟨zq0, zq1, zq2, zq3, zq4, zq5, zq6⟩, zfq, zlq⟩ := HZ2.out.facts; obtain ⟨⟨wq0, wq1, wq2, wq3, wq4, wq5, wq6⟩, wfq, wlq⟩ := HW2.out.facts; dsimp only at wq0 wq1 wq2 wq3 wq4 wq5 wq6)
   | (go_at_call 59; refine (HIW.out _).mono ?_; rintro e w8 ⟨rfl, rfl⟩)
   | (go_at_call 75; refine (HSTEP.out w3 w2 px cx HOX.out (by omega)).mono ?_; rintro e w4 ⟨rfl, ⟨p4, c4, hk4, hs4, hge4⟩, hb4⟩; have HK4 := hid hk4; have HSW4 := hid ((HSW3.out.alloc _).belowB hb4 (fun q hq => by have := HPW.out q.block (by subst hq; rfl); omega)); have HZ4 := hid ((HZ3.out.alloc _).belowB hb4 (by omega)); have HW4 := hid ((HW3'.out.alloc _).belowB hb4 (by omega)); have hbw4 := (hbw3.alloc (by omega) _).trans (hb4.mono (by omega)); obtain ⟨⟨z40, z41, z42, z43, z44, z45, z46⟩, zf4, zl4⟩ := HZ4.out.facts; obtain ⟨⟨w40, w41, w42, w43, w44, w45, w46⟩, wf4, wl4⟩ := HW4.out.facts; dsimp only at w40 w41 w42 w43 w44 w45 w46; obtain ⟨⟨x40, x41, x42, x43, x44, x45, x46⟩, xf4, xl4⟩ := HK4.out.facts))
  have HNE : Hid (∀ q, pw = some q → q.block ≠ w.heap.size + 1 + 1) := fun q hq e => by have := own_ge how q.block (by subst hq; rfl); omega
  exact bodyPost_ret (v := .tuple #[(Ce.mk 4 n owner need came turns there).val pw cw, i64 0, i64 E]) (by simp [results, Tryz.results65, go_sem, Ce.val, w40, w41, w42, w43, w44, w45, w46, z40, z41, z42, z43, z44, z45, z46]) rfl (by
   rw [HP.out]
   refine ⟨pw, cw, rfl, ?_, fun q hq => ⟨by have := own_ge how q.block (by subst hq; rfl); omega, by have h2 := HPW.out q.block (by subst hq; rfl); have h4 := hb4.size; simp at h4; simp; omega⟩, ?_⟩
   ·repeat (refine SlAt.set ?_ _ _ _ HNE.out)
    exact HSW4.out
   ·repeat (refine Below.setCell ?_ (by simp; omega) _)
    exact hbw4)
theorem okP_kind (x : Ce) (h : okP x = true) : x.kind = 1 ∨ x.kind = 2 ∨ x.kind = 3 ∨ x.kind = 4 := by
 by_cases h1 : x.kind = 1
 ·exact .inl h1
 ·by_cases h2 : x.kind = 2
  ·exact .inr (.inl h2)
  ·by_cases h3 : x.kind = 3
   ·exact .inr (.inr (.inl h3))
   ·by_cases h4 : x.kind = 4
    ·exact .inr (.inr (.inr h4))
    ·simp [okP, h1, h2, h3, h4] at h
theorem one_any (x : Ce) (p : Option Addr) (c : Nat) (wk : Int) (a : Ac) (w : World) (hsl : SlAt w p c x.came) (hm : x.came.length ≤ 17592186043904) :
  Calls Tryz.prog 65 #[x.val p c, i64 wk, a.val] w (CeTellL (oneP x wk a).1 [i64 (oneP x wk a).2.1, i64 (oneP x wk a).2.2] w) := by
 cases hok : okP x with
 | false => exact one_bad x p c wk a w hsl hm hok
 | true =>
  cases hw : isW wk with
  | false => exact one_noW x p c wk a w hsl hm hok hw
  | true =>
   rcases okP_kind x hok with h | h | h | h
   ·exact one_1 x p c wk a w hsl hm h hok hw
   ·exact one_2 x p c wk a w hsl hm h hok hw
   ·exact one_3 x p c wk a w hsl hm h hok hw
   ·exact one_4 x p c wk a w hsl hm h hok hw
end Go.Proofs.YtabkmdhkfbcldaaGreat
namespace Go.Proofs.YtabkmdhkfbcldaaGreat
open Go.RowKit
structure CeR where
 x : Ce
 p : Option Addr
 c : Nat
def CeR.cells (y : CeR) : List Value := [i64 y.x.kind, i64 y.x.n, i64 y.x.owner, i64 y.x.need, .slice y.p y.x.came.length y.c, i64 y.x.turns, .bool y.x.there]
def ceRow (ys : List CeR) : List Value := ys.flatMap CeR.cells
theorem ceRow_len (ys : List CeR) : (ceRow ys).length = 7 * ys.length := flat_len _ 7 (fun _ => rfl) ys
theorem ce_cells {w : World} {b o : Nat} {ys : List CeR} (h : Row w (some ⟨b, o, none⟩) (ceRow ys)) (k : Nat) (hk : k < ys.length) :
  w.cell? ⟨b, o + k * 7, none⟩ = some (i64 ys[k].x.kind) ∧ w.cell? ⟨b, o + k * 7 + 1, none⟩ = some (i64 ys[k].x.n) ∧ w.cell? ⟨b, o + k * 7 + 2, none⟩ = some (i64 ys[k].x.owner) ∧ w.cell? ⟨b, o + k * 7 + 3, none⟩ = some (i64 ys[k].x.need) ∧
  w.cell? ⟨b, o + k * 7 + 4, none⟩ = some (.slice ys[k].p ys[k].x.came.length ys[k].c) ∧ w.cell? ⟨b, o + k * 7 + 5, none⟩ = some (i64 ys[k].x.turns) ∧ w.cell? ⟨b, o + k * 7 + 6, none⟩ = some (.bool ys[k].x.there) := by
 have each : ∀ j (hj : j < 7), w.cell? ⟨b, o + (k * 7 + j), none⟩ = (CeR.cells ys[k])[j]? := fun j hj => by
  have hl := ceRow_len ys
  rw [show k * 7 + j = 7 * k + j from by omega]
  rw [h.cell (7 * k + j) (by omega), ← flat_get CeR.cells 7 (fun _ => rfl) ys k hk j hj]
  exact (List.getElem?_eq_getElem (by have : 7 * k + j < (ceRow ys).length := (by omega); exact this)).symm
 exact ⟨each 0 (by omega), each 1 (by omega), each 2 (by omega), each 3 (by omega), each 4 (by omega), each 5 (by omega), each 6 (by omega)⟩
end Go.Proofs.YtabkmdhkfbcldaaGreat
namespace Go.Proofs.YtabkmdhkfbcldaaGreat
open Go.RowKit
theorem cameN_append {l : List Int} {v : Int} (h : cameN l l.length = true) (hv : isW v = true) (hc : l.contains v = false) : cameN (l ++ [v]) (l ++ [v]).length = true := by
 rw [List.length_append, List.length_singleton, cameN_succ]
 have e1 : cameN (l ++ [v]) l.length = cameN l l.length := by
  unfold cameN
  rw [Bool.eq_iff_iff, List.all_eq_true, List.all_eq_true]
  have each : ∀ i ∈ List.range l.length, (isW ((l ++ [v]).getD i 0) && !((l ++ [v]).take i).contains ((l ++ [v]).getD i 0)) = (isW (l.getD i 0) && !(l.take i).contains (l.getD i 0)) := fun i hi => by
   have hi := List.mem_range.1 hi
   have e : (l ++ [v]).getD i 0 = l.getD i 0 := by simp [List.getD, List.getElem?_append_left hi]
   rw [e, List.take_append_of_le_length (by omega)]
  exact ⟨fun g i hi => by rw [← each i hi]; exact g i hi, fun g i hi => by rw [each i hi]; exact g i hi⟩
 have e2 : (l ++ [v]).getD l.length 0 = v := by simp [List.getD]
 have e3 : (l ++ [v]).take l.length = l := by simp
 rw [e1, e2, e3, h, hv, hc]
 rfl
theorem gateP_iff (x : Ce) : gateP x = true ↔ 1 ≤ x.need ∧ x.need ≤ 64 ∧ (x.came.length : Int) < x.need ∧ 0 ≤ x.turns ∧ x.turns ≤ 1152921504606846976 ∧ cameN x.came x.came.length = true := by
 simp only [gateP, gateHead, Bool.and_eq_true, decide_eq_true_eq]
 exact ⟨fun ⟨⟨⟨⟨⟨a, b⟩, c⟩, d⟩, e⟩, f⟩ => ⟨a, b, c, d, e, f⟩, fun ⟨a, b, c, d, e, f⟩ => ⟨⟨⟨⟨⟨a, b⟩, c⟩, d⟩, e⟩, f⟩⟩
theorem stepP_ok (x : Ce) (wk : Int) (a : Ac) (hok : okP x = true) (hw : isW wk = true) (h : (stepP x wk a).2.2 = 0) : okP (stepP x wk a).1 = true := by
 obtain ⟨kind, n, owner, need, came, turns, there⟩ := x
 rcases okP_kind _ hok with hk | hk | hk | hk <;> (dsimp only at hk; subst hk)
 ·unfold stepP at h ⊢
  simp only [reduceIte, Int.reduceEq] at h ⊢
  split
  ·exact hok
  ·split
   ·split
    ·simpa [okP] using hok
    ·exact hok
   ·split
    ·simpa [okP] using hok
    ·exact hok
 ·unfold stepP at h ⊢
  simp only [reduceIte, Int.reduceEq] at h ⊢
  simp [okP] at hok
  split
  ·split
   ·simpa [okP] using hok
   ·split
    ·simp [okP, hw, hok]
    ·simpa [okP] using hok
  ·split
   ·split
    ·simp [okP, hok]
    ·simpa [okP] using hok
   ·simpa [okP] using hok
 ·unfold stepP at h ⊢
  simp only [reduceIte, Int.reduceEq] at h ⊢
  simp [okP] at hok
  obtain ⟨⟨⟨hg, hn⟩, ho⟩, ht⟩ := hok
  have hg2 := (gateP_iff _).1 hg
  dsimp only at hg2
  obtain ⟨g1, g2, g3, g4, g5, g6⟩ := hg2
  subst hn ho ht
  have hself : okP ⟨3, 0, -1, need, came, turns, false⟩ = true := by simp [okP, hg]
  split
  ·split
   ·exact hself
   ·exact hself
  ·split
   ·split
    ·exact hself
    ·split
     ·exact hself
     ·split
      ·have : gateP ⟨3, 0, -1, need, [], turns + 1, false⟩ = true := by
        rw [gateP_iff]; dsimp only
        refine ⟨g1, g2, by simp; omega, by omega, by omega, by simp [cameN]⟩
       simp [okP, this]
      ·rename_i hc _ _
       have : gateP ⟨3, 0, -1, need, came ++ [wk], turns, false⟩ = true := by
        rw [gateP_iff]; dsimp only
        refine ⟨g1, g2, by simp; omega, g4, g5, cameN_append g6 hw (by simpa using hc)⟩
       simp [okP, this]
   ·exact hself
 ·unfold stepP at h ⊢
  simp only [reduceIte, Int.reduceEq] at h ⊢
  simp [okP] at hok
  split
  ·split
   ·simpa [okP] using hok
   ·simp [okP, hok]
  ·split
   ·split
    ·simpa [okP] using hok
    ·simpa [okP] using hok
   ·simpa [okP] using hok
theorem oneP_ok (x : Ce) (wk : Int) (a : Ac) (h : (oneP x wk a).2.2 = 0) : okP (oneP x wk a).1 = true := by
 unfold oneP at h ⊢
 split
 ·rename_i h1; rw [if_pos h1] at h; exact absurd h (by simp)
 ·rename_i h1
  rw [if_neg h1] at h
  split
  ·rename_i h2; rw [if_pos h2] at h; exact absurd h (by simp)
  ·rename_i h2
   rw [if_neg h2] at h
   exact stepP_ok x wk a (by simpa using h1) (by simpa using h2) h
theorem ok_came {x : Ce} (h : okP x = true) : x.came.length ≤ 64 := by
 obtain ⟨kind, n, owner, need, came, turns, there⟩ := x
 rcases okP_kind _ h with hk | hk | hk | hk <;> (dsimp only at hk; subst hk)
 ·simp [okP] at h; simp [h]
 ·simp [okP] at h; simp [h]
 ·simp [okP] at h
  have := (gateP_iff _).1 h.1.1.1
  dsimp only at this ⊢
  omega
 ·simp [okP] at h; simp [h]
end Go.Proofs.YtabkmdhkfbcldaaGreat
namespace Go.Proofs.YtabkmdhkfbcldaaGreat
open Go.RowKit
end Go.Proofs.YtabkmdhkfbcldaaGreat
namespace Go.Proofs.YtabkmdhkfbcldaaGreat
open Go.RowKit
end Go.Proofs.YtabkmdhkfbcldaaGreat
namespace Go.Proofs.YtabkmdhkfbcldaaGreat
open Go.RowKit
end Go.Proofs.YtabkmdhkfbcldaaGreat
namespace Go.Proofs.YtabkmdhkfbcldaaGreat
open Go.RowKit
end Go.Proofs.YtabkmdhkfbcldaaGreat
