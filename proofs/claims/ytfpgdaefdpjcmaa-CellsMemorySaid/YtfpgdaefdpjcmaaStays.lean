/-
  The walk of CellsStays.
-/
import Derived.Test.YtfpgdaefdpjcmaaStep
import Derived.Test.YtfpgdaefdpjcmaaLive
import Derived.Test.YtfpgdaefdpjcmaaOpenC
namespace Go.Proofs.Ytfpgdaefdpjcmaa
open Go.RowKit

theorem few_one (z : CeR) : fewP [z] = true := by
  have : Nat.min z.x.came.length 1000 ≤ 1000 := Nat.min_le_right _ _
  have e : sumC [z] 1 = Nat.min z.x.came.length 1000 := by simp [sumC]
  rw [fewP, show Nat.min [z].length 200 = 1 from rfl, e, decide_eq_true this]
  rfl

theorem start2 {w W1 : World} (x : Ce) (p : Option Addr) (c : Nat) (a : Ac) (hb : Below ((w.alloc (.cells #[i64 x.kind, i64 x.n, i64 x.owner, i64 x.need, .slice p x.came.length c, i64 x.turns, .bool x.there] 24)).alloc (.cells #[i64 a.kind, i64 a.cell, i64 a.old, i64 a.new] 26)).heap.size ((w.alloc (.cells #[i64 x.kind, i64 x.n, i64 x.owner, i64 x.need, .slice p x.came.length c, i64 x.turns, .bool x.there] 24)).alloc (.cells #[i64 a.kind, i64 a.cell, i64 a.old, i64 a.new] 26)) W1) :
    CeBlk W1 w.heap.size x p c ∧ AcBlk W1 (w.heap.size + 1) a := by
  refine ⟨((ceblk_new w x p c).alloc _).below hb, ?_⟩
  have := (acblk_new (w.alloc (.cells #[i64 x.kind, i64 x.n, i64 x.owner, i64 x.need, .slice p x.came.length c, i64 x.turns, .bool x.there] 24)) a).below hb
  rw [World.size_alloc] at this
  exact this

set_option maxHeartbeats 2000000 in
theorem stays_walk (w : World) (z : CeR) (hz : z.ok w) (wk : Int) (_ : (Lit.int .i64 wk).wf = true) (a : Ac) (_ : a.ok) :
    Calls Try.prog 4 #[.agg z.cells.toArray, i64 wk, .agg a.cells.toArray] w fun e w' => e = .returned (.bool true) ∧ Below w.heap.size w w' := by
  obtain ⟨_, hsl, hm⟩ := hz
  have HLV := hid (live_any)
  have HRS := hid (fun w1 (X : Ce) (p1 : Option Addr) (c1 : Nat) (h1 : SlAt w1 p1 c1 X.came) (h2 : SlAt w1 z.p z.c z.x.came) => rsame_any X z.x p1 z.p c1 z.c w1 h1 h2)
  have HO := hid (fun w1 (h : SlAt w1 z.p z.c z.x.came) => one_any z.x z.p z.c wk a w1 h hm)
  have HF := hid (fun w1 (b : Nat) (hr : Row w1 (some ⟨b, 0, none⟩) (ceRow [z])) => few_any (some ⟨b, 0, none⟩) 1 [z] w1 (by simp) (by decide) hr)
  simp only [few_one] at HF
  have HCK := hid (fun w1 (X : Ce) (p1 : Option Addr) (c1 : Nat) (h1 : SlAt w1 p1 c1 X.came) (h2 : X.came.length ≤ 17592186043904) => rcheck_any X p1 c1 w1 h1 h2)
  have HER := hid (oneP_err z.x wk a)
  have HOK := hid (oneP_ok z.x wk a)
  have HCM : Hid ((oneP z.x wk a).1.came.length ≤ 17592186043904) := by rcases oneP_came z.x wk a with h | h <;> simp only [Hid] <;> omega
  obtain ⟨⟨kind, n, owner, need, came, turns, there⟩, p, c⟩ := z
  obtain ⟨ak, ac, ao, an⟩ := a
  dsimp only at hsl hm HRS HO HER HOK HCM
  obtain ⟨R, hR⟩ : ∃ R, R = oneP ⟨kind, n, owner, need, came, turns, there⟩ wk ⟨ak, ac, ao, an⟩ := ⟨_, rfl⟩
  rw [← hR] at HO HER HOK HCM
  clear hR
  obtain ⟨X, V, E⟩ := R
  dsimp only at HER HOK HCM
  unfold CeTellL Ce.val Ac.val at HO
  dsimp only [List.singleton_append, List.cons_append] at HO
  show Calls Try.prog 4 #[.agg #[i64 kind, i64 n, i64 owner, i64 need, .slice p came.length c, i64 turns, .bool there], i64 wk, .agg #[i64 ak, i64 ac, i64 ao, i64 an]] w _
  by_cases hE : E = 0
  · subst hE
    have HCK := hid (fun w1 (p1 : Option Addr) (c1 : Nat) (h1 : SlAt w1 p1 c1 X.came) => HCK.out w1 X p1 c1 h1 HCM.out)
    rw [show ckP X = 0 by rw [ckP, HOK.out rfl]; rfl] at HCK
    unfold Ce.val at HCK
    go_enter Try.func4, Try.ntmps4
    go_wp2_with (first
      | (go_at_call 11; refine (HLV.out _).mono ?_; rintro e w1 ⟨rfl, hb1⟩; have H1 := hid (start2 ⟨kind, n, owner, need, came, turns, there⟩ p c ⟨ak, ac, ao, an⟩ hb1); obtain ⟨⟨u0, u1, u2, u3, u4, u5, u6⟩, uf, ul⟩ := H1.out.1.facts; dsimp only at u0 u1 u2 u3 u4 u5 u6; obtain ⟨⟨uc0, uc1, uc2, uc3⟩, ucl⟩ := H1.out.2.facts; dsimp only at uc0 uc1 uc2 uc3; have hz1 := hb1.size; simp only [World.size_alloc] at hz1; have hs1 := ((hsl.alloc _).alloc _).below hb1; have hbw1 := (((Below.refl w.heap.size w).alloc (Nat.le_refl _) _).alloc (by simp) _).trans (hb1.mono (by simp; omega)))
      | (go_at_call 12; refine (HF.out _ _ (row_new w1 [i64 kind, i64 n, i64 owner, i64 need, .slice p came.length c, i64 turns, .bool there] _)).mono ?_; rintro e w2 ⟨rfl, hb2⟩; have HA2 := hid ((H1.out.1.alloc _).below hb2); have HC2 := hid ((H1.out.2.alloc _).below hb2); obtain ⟨⟨v0, v1, v2, v3, v4, v5, v6⟩, vf, vl⟩ := HA2.out.facts; dsimp only at v0 v1 v2 v3 v4 v5 v6; obtain ⟨⟨vc0, vc1, vc2, vc3⟩, vcl⟩ := HC2.out.facts; dsimp only at vc0 vc1 vc2 vc3; have hz2 := hb2.size; simp only [World.size_alloc] at hz2; have hs2 := (hs1.alloc _).below hb2; have hbw2 := (hbw1.alloc hbw1.size _).trans (hb2.mono (by have := hbw1.size; simp; omega)))
      | (go_at_call 14; refine (HO.out _ hs2).mono ?_; rintro e w3 ⟨pX, cX, rfl, hsX, hlX, hb3⟩; have HA3 := hid (HA2.out.below hb3); obtain ⟨⟨y0, y1, y2, y3, y4, y5, y6⟩, yf, yl⟩ := HA3.out.facts; dsimp only at y0 y1 y2 y3 y4 y5 y6; have hz3 := hb3.size; have hs3 := hs2.below hb3; have hbw3 := hbw2.trans (hb3.mono hbw2.size))
      | (go_at_call 20; refine (HCK.out _ _ _ (hsX.alloc _)).mono ?_; rintro e w4 ⟨rfl, hb4⟩; have hbw4 := (hbw3.alloc hbw3.size _).trans (hb4.mono (by have := hbw3.size; simp; omega))))
    go_ret
    exact ⟨ret_bool rfl, hbw4⟩
  · obtain ⟨hX, hV⟩ := HER.out hE
    subst hX hV
    have HRS := hid (fun w1 (p1 : Option Addr) (c1 : Nat) (h1 : SlAt w1 p1 c1 came) (h2 : SlAt w1 p c came) => HRS.out w1 ⟨kind, n, owner, need, came, turns, there⟩ p1 c1 h1 h2)
    unfold Ce.val at HRS
    simp only [decide_true] at HRS
    have hne : (E != 0) = true := by simpa using hE
    clear HER HOK HCM hE
    dsimp only at HO
    go_enter Try.func4, Try.ntmps4
    go_wp2_with (first
      | (go_at_call 11; refine (HLV.out _).mono ?_; rintro e w1 ⟨rfl, hb1⟩; have H1 := hid (start2 ⟨kind, n, owner, need, came, turns, there⟩ p c ⟨ak, ac, ao, an⟩ hb1); obtain ⟨⟨u0, u1, u2, u3, u4, u5, u6⟩, uf, ul⟩ := H1.out.1.facts; dsimp only at u0 u1 u2 u3 u4 u5 u6; obtain ⟨⟨uc0, uc1, uc2, uc3⟩, ucl⟩ := H1.out.2.facts; dsimp only at uc0 uc1 uc2 uc3; have hz1 := hb1.size; simp only [World.size_alloc] at hz1; have hs1 := ((hsl.alloc _).alloc _).below hb1; have hbw1 := (((Below.refl w.heap.size w).alloc (Nat.le_refl _) _).alloc (by simp) _).trans (hb1.mono (by simp; omega)))
      | (go_at_call 12; refine (HF.out _ _ (row_new w1 [i64 kind, i64 n, i64 owner, i64 need, .slice p came.length c, i64 turns, .bool there] _)).mono ?_; rintro e w2 ⟨rfl, hb2⟩; have HA2 := hid ((H1.out.1.alloc _).below hb2); have HC2 := hid ((H1.out.2.alloc _).below hb2); obtain ⟨⟨v0, v1, v2, v3, v4, v5, v6⟩, vf, vl⟩ := HA2.out.facts; dsimp only at v0 v1 v2 v3 v4 v5 v6; obtain ⟨⟨vc0, vc1, vc2, vc3⟩, vcl⟩ := HC2.out.facts; dsimp only at vc0 vc1 vc2 vc3; have hz2 := hb2.size; simp only [World.size_alloc] at hz2; have hs2 := (hs1.alloc _).below hb2; have hbw2 := (hbw1.alloc hbw1.size _).trans (hb2.mono (by have := hbw1.size; simp; omega)))
      | (go_at_call 14; refine (HO.out _ hs2).mono ?_; rintro e w3 ⟨pX, cX, rfl, hsX, hlX, hb3⟩; have HA3 := hid (HA2.out.below hb3); obtain ⟨⟨y0, y1, y2, y3, y4, y5, y6⟩, yf, yl⟩ := HA3.out.facts; dsimp only at y0 y1 y2 y3 y4 y5 y6; have hz3 := hb3.size; have hs3 := hs2.below hb3; have hbw3 := hbw2.trans (hb3.mono hbw2.size))
      | (go_at_call 18; refine (HRS.out _ _ _ (hsX.alloc _) (hs3.alloc _)).mono ?_; rintro e w4 ⟨rfl, hb4⟩; have hbw4 := (hbw3.alloc hbw3.size _).trans (hb4.mono (by have := hbw3.size; simp; omega))))
    go_ret
    exact ⟨ret_bool rfl, hbw4⟩
end Go.Proofs.Ytfpgdaefdpjcmaa
