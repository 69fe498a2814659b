/-
 Stable sorting at a row of structs: merging by halves, the second stretch the longer one, or alike.
 Stable sorting at a row of structs: slices.SortStableFunc.
 frag.Faults: the loops.
 Stable sorting of a row of the call's own: what it is behind it.
 frag.Faults: as the document says.
-/
import Derived.Test.YthlingholhjcnaaJJ14
import Derived.Test.YthlingholhjcnaaJJ13
import Derived.Test.YthlingholhjcnaaJJ0
import Derived.Shelf.SlSortCmp.NoneTotal
namespace Go.Proofs.Ythlingholhjcnaa
open Go.Shelf Go.RowKit Go.Lib Go.Sort
variable {P : Program} {k : Nat} {α : Type} [Inhabited α]
set_option maxHeartbeats 16000000 in
set_option maxRecDepth 1000000 in
theorem symMerge_lo (T : StT P k) (F : P.funcs[65]? = some Try.f65) (F1 : P.funcs[64]? = some Try.f64) (F2 : P.funcs[60]? = some Try.f60) (enc : α → List Value) (cf : α → α → Int) (Rr : α → α → Bool) (hO : SWO Rr) (g : Nat) (cb : Array Value) (blk off cap : Nat) (d0 d : Array α) (w0 w : World)
  (eg : ∀ args w, (callFunc g args).run P w = .ok (.enter g args) w) (hcmp : CmpLays P g cb enc k cf blk off d0.size w0)
  (R : RowK enc k w0 blk off d0) (hs : d0.size = d.size) (S : SWK enc k w0 blk off d w) (hsz : d.size < 2305843009213693952) (N : Nat) (IH : SymC P enc k cf Rr g cb blk off cap d0 w0 N)
  (pre A B post : List α) (hd : d.toList = pre ++ (A ++ (B ++ post))) (hN : A.length + B.length ≤ N) (hA : 1 < A.length) (hB : 1 < B.length) (hsA : Srt Rr A) (hsB : Srt Rr B) (hx : ∀ x ∈ A, ∀ y ∈ B, ltOf cf y x = Rr y x)
  (n : Nat) (hn : n = d.size) {x y z : Int} (hx1 : x = (pre.length : Nat)) (hy : y = (pre.length + A.length : Nat)) (hz : z = (pre.length + A.length + B.length : Nat)) (hcase : ¬ (pre.length + (pre.length + A.length + B.length)) / 2 < pre.length + A.length) :
  Calls P 60 #[.slice (some ⟨blk, off, none⟩) n cap, .int .i64 x, .int .i64 y, .int .i64 z, .func (.func g) #[] cb] w fun e w' =>
   e = .returned (.tuple #[]) ∧ ∃ (C : List α) (d' : Array α), d'.size = d.size ∧ C.Perm (A ++ B) ∧ Srt Rr C ∧ d'.toList = pre ++ (C ++ post) ∧ SWK enc k w0 blk off d' w' := by
 have mixed := T.mixed; have t0 := T.t0; have a0 := T.a0; have z0 := T.z0; have v0 := T.v0; have t3 := T.t3; have a3 := T.a3; have z3 := T.z3; have v3 := T.v3; have t4 := T.t4; have a4 := T.a4; have z4 := T.z4; have v4 := T.v4; have t22 := T.t22; have a22 := T.a22; have z22 := T.z22; have v22 := T.v22; have t25 := T.t25; have a25 := T.a25; have z25 := T.z25; have v25 := T.v25
 have t39 := T.t39; have a39 := T.a39; have z39 := T.z39; have v39 := T.v39
 have aE := T.aE; have zE := T.zE
 have e64 : ∀ args w, (callFunc 64 args).run P w = .ok (.enter 64 args) w := enters_of F1 (by kernel_rfl) rfl
 have e60 : ∀ args w, (callFunc 60 args).run P w = .ok (.enter 60 args) w := enters_of F2 (by kernel_rfl) rfl
 have S0 : Aside (SWK enc k w0 blk off d w) := S
 have HC : Aside _ := hcmp
 have HIH : Aside _ := IH
 have hdl : d.size = pre.length + A.length + B.length + post.length := by
  have := congrArg List.length hd
  simp at this; omega
 have HD : Hid _ := hd
 have HO : Aside _ := And.intro hsA (And.intro hsB (And.intro hx hN))
 clear S hd hcmp hsA hsB hx IH hN
 obtain ⟨a, ha⟩ : ∃ a, a = pre.length := ⟨_, rfl⟩
 obtain ⟨m, hm⟩ : ∃ m, m = a + A.length := ⟨_, rfl⟩
 obtain ⟨b, hb⟩ : ∃ b, b = m + B.length := ⟨_, rfl⟩
 rw [← ha] at hx1 hy hz hdl hcase
 rw [← hm] at hy hz hdl hcase
 rw [← hb] at hz hdl hcase
 have hbd : b ≤ d.size := by omega
 have hb1 : ∀ t u, a ≤ t → t < m → m ≤ u → u < b → ltOf cf d[u]! d[t]! = Rr d[u]! d[t]! := fun t u ht1 ht2 hu1 hu2 => by
  have e1 : d[t]! = A[t - a]! := by
   have := arr_at (d := d) (p := pre) (q := A ++ (B ++ post)) HD.out (t - a) (by simp; omega)
   rw [← ha, show a + (t - a) = t by omega] at this
   rw [this, getElem!_pos _ _ (by simp; omega), getElem!_pos _ _ (by omega), List.getElem_append_left (by omega)]
  have e2 : d[u]! = B[u - m]! := by
   have := arr_at (d := d) (p := pre ++ A) (q := B ++ post) (by rw [HD.out]; simp) (u - m) (by simp; omega)
   rw [List.length_append, ← ha, ← hm, show m + (u - m) = u by omega] at this
   rw [this, getElem!_pos _ _ (by simp; omega), getElem!_pos _ _ (by omega), List.getElem_append_left (by omega)]
  rw [e1, e2]
  refine HO.out.2.2.1 _ ?_ _ ?_
  ·rw [getElem!_pos _ _ (by omega)]; exact List.getElem_mem _
  ·rw [getElem!_pos _ _ (by omega)]; exact List.getElem_mem _
 have HX : Aside _ := hb1
 have HAB : Aside _ := And.intro ha (And.intro hm hb)
 subst hx1 hy hz hn
 obtain ⟨mid, hmid⟩ : ∃ h, h = (a + b) / 2 := ⟨_, rfl⟩
 rw [← hmid] at hcase
 have hz : ((a : Int) + (b : Int)) / 2 = (mid : Int) := by omega
 have hmz1 : ((m : Int) - (a : Int) == 1) = false := beq_eq_false_iff_ne.2 (by omega)
 have hmz2 : ((b : Int) - (m : Int) == 1) = false := beq_eq_false_iff_ne.2 (by omega)
 have hmz3 : ¬ (m : Int) - (a : Int) = 1 := by omega
 have hmz4 : ¬ (b : Int) - (m : Int) = 1 := by omega
 have hma : a + 1 < m := by omega
 have hmb : m + 1 < b := by omega
 have hm1 : 2 * mid ≤ a + b := by omega
 have hm2 : a + b ≤ 2 * mid + 1 := by omega
 clear ha hm hdl hb1 hb hmid hA hB
 have hcz : ¬ (m : Int) > (mid : Int) := by omega
 go_enter F2, Try.ntmps60
 go_wp2
 go_loopg [20, 21] (b - a) (fun kx s10 s11 wr => ∃ (i j : Nat), s10 = .int .i64 i ∧ s11 = .int .i64 j ∧ a ≤ i ∧ i ≤ j ∧ j ≤ m ∧ j - i ≤ kx ∧
  Aside ((i = a ∨ Rr d[mid + m - i]! d[i - 1]! = false) ∧ (j = m ∨ Rr d[mid + m - 1 - j]! d[j]! = true)) ∧ Aside (SWK enc k w0 blk off d wr))
 case atStart => exact ⟨a, m, by go_num, by go_num, by omega, by omega, by omega, by omega, ⟨.inl rfl, .inl rfl⟩, S0⟩
 case round =>
  clear S0
  obtain ⟨i, j, rfl, rfl, hmi, hij, hjb, hkx, HI, S1⟩ := hrel
  by_cases hlt : i < j
  ·obtain ⟨h, hh⟩ : ∃ h, h = (i + j) / 2 := ⟨_, rfl⟩
   have hltz : (i : Int) < (j : Int) := by omega
   have hzz : ((i : Int) + (j : Int)) / 2 = (h : Int) := by omega
   have hih : i ≤ h := by omega
   have hhj : h < j := by omega
   clear hh
   obtain ⟨q, hq⟩ : ∃ q, q = mid + m - 1 - h := ⟨_, rfl⟩
   have ha1 : a ≤ h := by omega
   have hb1 : h < m := by omega
   have hq1 : m ≤ q := by omega
   have hq2 : q < b := by omega
   have ea112 : ((q : Int)).toNat = q := by omega
   have pa112 : (0 : Int) ≤ (q : Int) := by omega
   have ba112 : (q : Int) < (d.size : Int) := by omega
   have hqz : (mid : Int) + (m : Int) - 1 - (h : Int) = (q : Int) := by omega
   have ra112 : IntKind.i64.wrap ((mid : Int) + (m : Int) - 1 - (h : Int)) = (q : Int) := by rw [IntKind.wrap_i64]; omega
   have ra113 : IntKind.i64.wrap ((q : Int)) = (q : Int) := by rw [IntKind.wrap_i64]; omega
   have ec112 : ((h : Int)).toNat = h := by omega
   have pc112 : (0 : Int) ≤ (h : Int) := by omega
   have bc112 : (h : Int) < (d.size : Int) := by omega
   have rc112 : IntKind.i64.wrap ((h : Int)) = (h : Int) := by rw [IntKind.wrap_i64]; omega
   have HQ : Aside _ := hq
   clear hq
   obtain ⟨x112, hx112⟩ : ∃ x, x = d[q]! := ⟨_, rfl⟩
   obtain ⟨y112, hy112⟩ : ∃ x, x = d[h]! := ⟨_, rfl⟩
   have l112a := S1.out.ld R (by omega) P q (by omega)
   have l112b := S1.out.ld R (by omega) P h (by omega)
   rw [← hx112] at l112a
   rw [← hy112] at l112b
   have hc112 := S1.out.cmp HC.out (by omega) x112 y112
   have HX1 : Aside (ltOf cf x112 y112 = Rr x112 y112) := by show _ = _; rw [hx112, hy112]; exact HX.out h q ha1 hb1 hq1 hq2
   have HX2 : Aside (x112 = d[q]! ∧ y112 = d[h]!) := ⟨hx112, hy112⟩
   clear hx112 hy112
   cases hlv : ltOf cf x112 y112 with
   | false =>
    have hv112 : ¬ cf x112 y112 < 0 := of_decide_eq_false hlv
    have hd112 : decide (cf x112 y112 < 0) = false := decide_eq_false hv112
    have HL : Hid _ := hlv
    clear hlv
    go_wp2_with fail
    go_quiet_grown (first | (go_at_fn g; refine Calls.grown_of (hc112 _ _)))
    have S2 : Aside (SWK enc k w0 blk off d (grow (wr.drewN nq) osq)) := S1.out.grown nq osq
    clear l112a l112b hc112 S1
    generalize grow (wr.drewN nq) osq = wu2 at S2 ⊢
    clear nq osq
    go_wp2
    go_roundg (j - (h + 1))
    case measure => omega
    case rel => exact ⟨h + 1, j, by go_num, rfl, by omega, by omega, by omega, Nat.le_refl _, ⟨.inr (by rw [Nat.add_sub_cancel, show mid + m - (h + 1) = q by have := HQ.out; omega, ← HX2.out.1, ← HX2.out.2, ← HX1.out]; exact HL.out), HI.out.2⟩, S2⟩
   | true =>
    have hv112 : cf x112 y112 < 0 := of_decide_eq_true hlv
    have hd112 : decide (cf x112 y112 < 0) = true := decide_eq_true hv112
    have HL : Hid _ := hlv
    clear hlv
    go_wp2_with fail
    go_quiet_grown (first | (go_at_fn g; refine Calls.grown_of (hc112 _ _)))
    have S2 : Aside (SWK enc k w0 blk off d (grow (wr.drewN nq) osq)) := S1.out.grown nq osq
    clear l112a l112b hc112 S1
    generalize grow (wr.drewN nq) osq = wu2 at S2 ⊢
    clear nq osq
    go_wp2
    go_roundg (h - i)
    case measure => omega
    case rel => exact ⟨i, h, rfl, rfl, by omega, by omega, by omega, Nat.le_refl _, ⟨HI.out.1, .inr (by rw [← HQ.out, ← HX2.out.1, ← HX2.out.2, ← HX1.out]; exact HL.out)⟩, S2⟩
  ·obtain rfl : i = j := by omega
   have hltz : ¬ (i : Int) < (i : Int) := by omega
   obtain ⟨e, he⟩ : ∃ e, e = mid + m - i := ⟨_, rfl⟩
   have hez : (mid : Int) + (m : Int) - (i : Int) = (e : Int) := by omega
   have h1 : a ≤ i := by omega
   have h2 : i ≤ m := by omega
   have h3 : m ≤ e := by omega
   have h4 : e ≤ b := by omega
   have h5 : mid + m ≤ e + i := by omega
   have h6 : e + i ≤ mid + m := by omega
   obtain ⟨A1, A2, B1, B2, KK⟩ := symK_of (s := i) (e := e) hO HD.out HAB.out.1 HAB.out.2.1 HAB.out.2.2 HO.out.1 HO.out.2.1 h1 h2 h3 h4
    (by rcases HI.out.1 with h | h; exact .inl h; exact .inr (.inr (by rw [he]; exact h))) (by rcases HI.out.2 with h | h; exact .inl h; exact .inr (.inr (by rw [show e - 1 = mid + m - 1 - i by omega]; exact h)))
   have hiz : ∀ x, x ∈ A1 → x ∈ A := fun x hx => by rw [KK.hA]; exact List.mem_append_left _ hx
   have hiz2 : ∀ x, x ∈ A2 → x ∈ A := fun x hx => by rw [KK.hA]; exact List.mem_append_right _ hx
   have hiz3 : ∀ x, x ∈ B1 → x ∈ B := fun x hx => by rw [KK.hB]; exact List.mem_append_left _ hx
   have hiz4 : ∀ x, x ∈ B2 → x ∈ B := fun x hx => by rw [KK.hB]; exact List.mem_append_right _ hx
   have hll := And.intro KK.l1 (And.intro KK.l2 (And.intro KK.l3 KK.l4))
   have HK : Aside _ := KK
   have HM : Aside _ := And.intro hiz (And.intro hiz2 (And.intro hiz3 hiz4))
   have HLL : Aside _ := hll
   have HPL : Aside (d.size < 2305843009213693952 ∧ A.length + B.length ≤ N ∧ a = pre.length ∧ m = a + A.length ∧ b = m + B.length) := ⟨hsz, HO.out.2.2.2, HAB.out⟩
   have HDL : Hid (d.toList = pre ++ (A1 ++ (A2 ++ (B1 ++ (B2 ++ post))))) := by show _ = _; rw [HD.out, KK.hA, KK.hB]; simp
   clear he KK hiz hiz2 hiz3 hiz4 hll
   have HE : Aside (e + i = mid + m) := by show _ = _; omega
   by_cases c1 : a < i
   ·have c1z : (a : Int) < (i : Int) := by omega
    by_cases c2 : i < m
    ·have c2z : (i : Int) < (m : Int) := by omega
     have c2y : (mid : Int) < (e : Int) := by omega
     by_cases c3 : m < e
     ·have c3z : (m : Int) < (e : Int) := by omega
      have c3y : (i : Int) < (mid : Int) := by omega
      by_cases c4 : e < b
      ·have c4z : (e : Int) < (b : Int) := by omega
       have zz : True := trivial
       go_wp2_with fail
       go_at_fn 64
       refine (rotate_any T F F1 enc _ blk off cap d0 d w0 _ R hs S1.out (by omega) (pre ++ A1) A2 B1 (B2 ++ post) (by rw [HDL.out]; simp) (by have := HLL.out; omega) (by have := HLL.out; omega) d.size rfl (by have := HLL.out; have := HPL.out; simp; omega) (by have := HLL.out; have := HPL.out; simp; omega) (by have := HLL.out; have := HPL.out; simp; omega)).mono ?_
       rintro _ w1 ⟨rfl, d1, hd1, hl1, hw1⟩
       replace hl1 : Hid (d1.toList = pre ++ (A1 ++ (B1 ++ (A2 ++ (B2 ++ post))))) := by show _ = _; rw [hl1]; simp
       have SA : Aside _ := hw1
       have hds1 : d1.size ≤ d.size ∧ d.size ≤ d1.size := by omega
       clear hw1
       go_wp2_with fail
       go_at_fn 60
       refine (HIH.out d1 _ pre A1 B1 (A2 ++ (B2 ++ post)) (by omega) SA.out hl1.out (by have := HLL.out; have := HPL.out; omega) (by have := HLL.out; omega) (by have := HLL.out; omega) HK.out.s1 HK.out.s3 (fun x hx y hy => HO.out.2.2.1 x (HM.out.1 x hx) y (HM.out.2.2.1 y hy)) d.size _ _ _ (by omega) (by have := HLL.out; have := HPL.out; omega) (by have := HLL.out; have := HPL.out; omega) (by have := HLL.out; have := HPL.out; have := HE.out; omega)).mono ?_
       rintro _ w2 ⟨rfl, C1, d2, hd2, hp1, hs1, hl2, hw2⟩
       have SB : Aside _ := hw2
       have HP1 : Aside _ := And.intro hp1 hs1
       have HL2 : Hid _ := hl2
       have hds2 : d2.size ≤ d.size ∧ d.size ≤ d2.size := by omega
       have HC1 : Aside (C1.length = A1.length + B1.length) := by show _ = _; rw [hp1.length_eq]; simp
       clear hw2 hp1 hs1 hl2 hl1 SA hd2 hd1
       go_wp2_with fail
       go_at_fn 60
       refine (HIH.out d2 _ (pre ++ C1) A2 B2 post (by omega) SB.out (by rw [HL2.out]; simp) (by have := HLL.out; have := HPL.out; omega) (by have := HLL.out; omega) (by have := HLL.out; omega) HK.out.s2 HK.out.s4 (fun x hx y hy => HO.out.2.2.1 x (HM.out.2.1 x hx) y (HM.out.2.2.2 y hy)) d.size _ _ _ (by omega) (by have := HLL.out; have := HPL.out; have := HE.out; have := HC1.out; simp; omega) (by have := HLL.out; have := HPL.out; have := HE.out; have := HC1.out; simp; omega) (by have := HLL.out; have := HPL.out; have := HE.out; have := HC1.out; simp; omega)).mono ?_
       rintro _ w3 ⟨rfl, C2, d3, hd3, hp2, hs2, hl3, hw3⟩
       replace hl3 : Hid _ := hl3
       have HP2 : Aside _ := And.intro hp2 hs2
       clear hp2 hs2
       have SC : Aside _ := hw3
       clear hw3
       go_wp2
       all_goals go_end0
       all_goals obtain ⟨r1, r2⟩ := merge_join HK.out.cr HP1.out.1 HP2.out.1 HP1.out.2 HP2.out.2
       all_goals exact ⟨rfl, C1 ++ C2, d3, by omega, by rw [HK.out.hA, HK.out.hB]; exact r2, r1, by rw [hl3.out]; simp, SC.out⟩
      ·have c4z : ¬ (e : Int) < (b : Int) := by omega
       have zz : True := trivial
       go_wp2_with fail
       go_at_fn 64
       refine (rotate_any T F F1 enc _ blk off cap d0 d w0 _ R hs S1.out (by omega) (pre ++ A1) A2 B1 (B2 ++ post) (by rw [HDL.out]; simp) (by have := HLL.out; omega) (by have := HLL.out; omega) d.size rfl (by have := HLL.out; have := HPL.out; simp; omega) (by have := HLL.out; have := HPL.out; simp; omega) (by have := HLL.out; have := HPL.out; simp; omega)).mono ?_
       rintro _ w1 ⟨rfl, d1, hd1, hl1, hw1⟩
       replace hl1 : Hid (d1.toList = pre ++ (A1 ++ (B1 ++ (A2 ++ (B2 ++ post))))) := by show _ = _; rw [hl1]; simp
       have SA : Aside _ := hw1
       have hds1 : d1.size ≤ d.size ∧ d.size ≤ d1.size := by omega
       clear hw1
       go_wp2_with fail
       go_at_fn 60
       refine (HIH.out d1 _ pre A1 B1 (A2 ++ (B2 ++ post)) (by omega) SA.out hl1.out (by have := HLL.out; have := HPL.out; omega) (by have := HLL.out; omega) (by have := HLL.out; omega) HK.out.s1 HK.out.s3 (fun x hx y hy => HO.out.2.2.1 x (HM.out.1 x hx) y (HM.out.2.2.1 y hy)) d.size _ _ _ (by omega) (by have := HLL.out; have := HPL.out; omega) (by have := HLL.out; have := HPL.out; omega) (by have := HLL.out; have := HPL.out; have := HE.out; omega)).mono ?_
       rintro _ w2 ⟨rfl, C1, d2, hd2, hp1, hs1, hl2, hw2⟩
       have SB : Aside _ := hw2
       have HP1 : Aside _ := And.intro hp1 hs1
       have HL2 : Hid _ := hl2
       have hds2 : d2.size ≤ d.size ∧ d.size ≤ d2.size := by omega
       have HC1 : Aside (C1.length = A1.length + B1.length) := by show _ = _; rw [hp1.length_eq]; simp
       clear hw2 hp1 hs1 hl2 hl1 SA hd2 hd1
       obtain ⟨C2, d3, hd3, hp2, hs2, hl3, hw3⟩ : ∃ (C2 : List α) (d3 : Array α), d3.size = d2.size ∧ C2.Perm (A2 ++ B2) ∧ Srt Rr C2 ∧ Hid (d3.toList = (pre ++ C1) ++ (C2 ++ post)) ∧ SWK enc k w0 blk off d3 w2 := ⟨A2 ++ B2, d2, rfl, List.Perm.refl _, by
        rw [show B2 = [] from List.eq_nil_of_length_eq_zero (by have := HLL.out; omega)]; simpa using HK.out.s2, by show _ = _; rw [HL2.out]; simp, SB.out⟩
       have HP2 : Aside _ := And.intro hp2 hs2
       clear hp2 hs2
       have SC : Aside _ := hw3
       clear hw3
       go_wp2
       all_goals go_end0
       all_goals obtain ⟨r1, r2⟩ := merge_join HK.out.cr HP1.out.1 HP2.out.1 HP1.out.2 HP2.out.2
       all_goals exact ⟨rfl, C1 ++ C2, d3, by omega, by rw [HK.out.hA, HK.out.hB]; exact r2, r1, by rw [hl3.out]; simp, SC.out⟩
     ·have c3z : ¬ (m : Int) < (e : Int) := by omega
      have c3y : ¬ (i : Int) < (mid : Int) := by omega
      have c4 : e < b := by omega
      have c4z : (e : Int) < (b : Int) := by omega
      have zz : True := trivial
      obtain ⟨d1, hd1, hl1, hw1⟩ : ∃ d1 : Array α, d1.size = d.size ∧ Hid (d1.toList = pre ++ (A1 ++ (B1 ++ (A2 ++ (B2 ++ post))))) ∧ SWK enc k w0 blk off d1 wr := ⟨d, rfl, by
       show _ = _
       rw [HDL.out, show B1 = [] from List.eq_nil_of_length_eq_zero (by have := HLL.out; omega)]; simp, S1.out⟩
      have SA : Aside _ := hw1
      have hds1 : d1.size ≤ d.size ∧ d.size ≤ d1.size := by omega
      clear hw1
      obtain ⟨C1, d2, hd2, hp1, hs1, hl2, hw2⟩ : ∃ (C1 : List α) (d2 : Array α), d2.size = d1.size ∧ C1.Perm (A1 ++ B1) ∧ Srt Rr C1 ∧ d2.toList = pre ++ (C1 ++ (A2 ++ (B2 ++ post))) ∧ SWK enc k w0 blk off d2 wr := ⟨A1 ++ B1, d1, rfl, List.Perm.refl _, by
       rw [show B1 = [] from List.eq_nil_of_length_eq_zero (by have := HLL.out; omega)]; simpa using HK.out.s1, by rw [hl1.out]; simp, SA.out⟩
      have SB : Aside _ := hw2
      have HP1 : Aside _ := And.intro hp1 hs1
      have HL2 : Hid _ := hl2
      have hds2 : d2.size ≤ d.size ∧ d.size ≤ d2.size := by omega
      have HC1 : Aside (C1.length = A1.length + B1.length) := by show _ = _; rw [hp1.length_eq]; simp
      clear hw2 hp1 hs1 hl2 hl1 SA hd2 hd1
      go_wp2_with fail
      go_at_fn 60
      refine (HIH.out d2 _ (pre ++ C1) A2 B2 post (by omega) SB.out (by rw [HL2.out]; simp) (by have := HLL.out; have := HPL.out; omega) (by have := HLL.out; omega) (by have := HLL.out; omega) HK.out.s2 HK.out.s4 (fun x hx y hy => HO.out.2.2.1 x (HM.out.2.1 x hx) y (HM.out.2.2.2 y hy)) d.size _ _ _ (by omega) (by have := HLL.out; have := HPL.out; have := HE.out; have := HC1.out; simp; omega) (by have := HLL.out; have := HPL.out; have := HE.out; have := HC1.out; simp; omega) (by have := HLL.out; have := HPL.out; have := HE.out; have := HC1.out; simp; omega)).mono ?_
      rintro _ w3 ⟨rfl, C2, d3, hd3, hp2, hs2, hl3, hw3⟩
      replace hl3 : Hid _ := hl3
      have HP2 : Aside _ := And.intro hp2 hs2
      clear hp2 hs2
      have SC : Aside _ := hw3
      clear hw3
      go_wp2
      all_goals go_end0
      all_goals obtain ⟨r1, r2⟩ := merge_join HK.out.cr HP1.out.1 HP2.out.1 HP1.out.2 HP2.out.2
      all_goals exact ⟨rfl, C1 ++ C2, d3, by omega, by rw [HK.out.hA, HK.out.hB]; exact r2, r1, by rw [hl3.out]; simp, SC.out⟩
    ·have c2z : ¬ (i : Int) < (m : Int) := by omega
     have c2y : ¬ (mid : Int) < (e : Int) := by omega
     by_cases c3 : m < e
     ·have c3z : (m : Int) < (e : Int) := by omega
      have c3y : (i : Int) < (mid : Int) := by omega
      by_cases c4 : e < b
      ·have c4z : (e : Int) < (b : Int) := by omega
       have zz : True := trivial
       obtain ⟨d1, hd1, hl1, hw1⟩ : ∃ d1 : Array α, d1.size = d.size ∧ Hid (d1.toList = pre ++ (A1 ++ (B1 ++ (A2 ++ (B2 ++ post))))) ∧ SWK enc k w0 blk off d1 wr := ⟨d, rfl, by
        show _ = _
        rw [HDL.out, show A2 = [] from List.eq_nil_of_length_eq_zero (by have := HLL.out; omega)]; simp, S1.out⟩
       have SA : Aside _ := hw1
       have hds1 : d1.size ≤ d.size ∧ d.size ≤ d1.size := by omega
       clear hw1
       go_wp2_with fail
       go_at_fn 60
       refine (HIH.out d1 _ pre A1 B1 (A2 ++ (B2 ++ post)) (by omega) SA.out hl1.out (by have := HLL.out; have := HPL.out; omega) (by have := HLL.out; omega) (by have := HLL.out; omega) HK.out.s1 HK.out.s3 (fun x hx y hy => HO.out.2.2.1 x (HM.out.1 x hx) y (HM.out.2.2.1 y hy)) d.size _ _ _ (by omega) (by have := HLL.out; have := HPL.out; omega) (by have := HLL.out; have := HPL.out; omega) (by have := HLL.out; have := HPL.out; have := HE.out; omega)).mono ?_
       rintro _ w2 ⟨rfl, C1, d2, hd2, hp1, hs1, hl2, hw2⟩
       have SB : Aside _ := hw2
       have HP1 : Aside _ := And.intro hp1 hs1
       have HL2 : Hid _ := hl2
       have hds2 : d2.size ≤ d.size ∧ d.size ≤ d2.size := by omega
       have HC1 : Aside (C1.length = A1.length + B1.length) := by show _ = _; rw [hp1.length_eq]; simp
       clear hw2 hp1 hs1 hl2 hl1 SA hd2 hd1
       obtain ⟨C2, d3, hd3, hp2, hs2, hl3, hw3⟩ : ∃ (C2 : List α) (d3 : Array α), d3.size = d2.size ∧ C2.Perm (A2 ++ B2) ∧ Srt Rr C2 ∧ Hid (d3.toList = (pre ++ C1) ++ (C2 ++ post)) ∧ SWK enc k w0 blk off d3 w2 := ⟨A2 ++ B2, d2, rfl, List.Perm.refl _, by
        rw [show A2 = [] from List.eq_nil_of_length_eq_zero (by have := HLL.out; omega)]; simpa using HK.out.s4, by show _ = _; rw [HL2.out]; simp, SB.out⟩
       have HP2 : Aside _ := And.intro hp2 hs2
       clear hp2 hs2
       have SC : Aside _ := hw3
       clear hw3
       go_wp2
       all_goals go_end0
       all_goals obtain ⟨r1, r2⟩ := merge_join HK.out.cr HP1.out.1 HP2.out.1 HP1.out.2 HP2.out.2
       all_goals exact ⟨rfl, C1 ++ C2, d3, by omega, by rw [HK.out.hA, HK.out.hB]; exact r2, r1, by rw [hl3.out]; simp, SC.out⟩
      ·have c4z : ¬ (e : Int) < (b : Int) := by omega
       have zz : True := trivial
       obtain ⟨d1, hd1, hl1, hw1⟩ : ∃ d1 : Array α, d1.size = d.size ∧ Hid (d1.toList = pre ++ (A1 ++ (B1 ++ (A2 ++ (B2 ++ post))))) ∧ SWK enc k w0 blk off d1 wr := ⟨d, rfl, by
        show _ = _
        rw [HDL.out, show A2 = [] from List.eq_nil_of_length_eq_zero (by have := HLL.out; omega)]; simp, S1.out⟩
       have SA : Aside _ := hw1
       have hds1 : d1.size ≤ d.size ∧ d.size ≤ d1.size := by omega
       clear hw1
       go_wp2_with fail
       go_at_fn 60
       refine (HIH.out d1 _ pre A1 B1 (A2 ++ (B2 ++ post)) (by omega) SA.out hl1.out (by have := HLL.out; have := HPL.out; omega) (by have := HLL.out; omega) (by have := HLL.out; omega) HK.out.s1 HK.out.s3 (fun x hx y hy => HO.out.2.2.1 x (HM.out.1 x hx) y (HM.out.2.2.1 y hy)) d.size _ _ _ (by omega) (by have := HLL.out; have := HPL.out; omega) (by have := HLL.out; have := HPL.out; omega) (by have := HLL.out; have := HPL.out; have := HE.out; omega)).mono ?_
       rintro _ w2 ⟨rfl, C1, d2, hd2, hp1, hs1, hl2, hw2⟩
       have SB : Aside _ := hw2
       have HP1 : Aside _ := And.intro hp1 hs1
       have HL2 : Hid _ := hl2
       have hds2 : d2.size ≤ d.size ∧ d.size ≤ d2.size := by omega
       have HC1 : Aside (C1.length = A1.length + B1.length) := by show _ = _; rw [hp1.length_eq]; simp
       clear hw2 hp1 hs1 hl2 hl1 SA hd2 hd1
       obtain ⟨C2, d3, hd3, hp2, hs2, hl3, hw3⟩ : ∃ (C2 : List α) (d3 : Array α), d3.size = d2.size ∧ C2.Perm (A2 ++ B2) ∧ Srt Rr C2 ∧ Hid (d3.toList = (pre ++ C1) ++ (C2 ++ post)) ∧ SWK enc k w0 blk off d3 w2 := ⟨A2 ++ B2, d2, rfl, List.Perm.refl _, by
        rw [show A2 = [] from List.eq_nil_of_length_eq_zero (by have := HLL.out; omega)]; simpa using HK.out.s4, by show _ = _; rw [HL2.out]; simp, SB.out⟩
       have HP2 : Aside _ := And.intro hp2 hs2
       clear hp2 hs2
       have SC : Aside _ := hw3
       clear hw3
       go_wp2
       all_goals go_end0
       all_goals obtain ⟨r1, r2⟩ := merge_join HK.out.cr HP1.out.1 HP2.out.1 HP1.out.2 HP2.out.2
       all_goals exact ⟨rfl, C1 ++ C2, d3, by omega, by rw [HK.out.hA, HK.out.hB]; exact r2, r1, by rw [hl3.out]; simp, SC.out⟩
     ·have c3z : ¬ (m : Int) < (e : Int) := by omega
      have c3y : ¬ (i : Int) < (mid : Int) := by omega
      have c4 : e < b := by omega
      have c4z : (e : Int) < (b : Int) := by omega
      have zz : True := trivial
      obtain ⟨d1, hd1, hl1, hw1⟩ : ∃ d1 : Array α, d1.size = d.size ∧ Hid (d1.toList = pre ++ (A1 ++ (B1 ++ (A2 ++ (B2 ++ post))))) ∧ SWK enc k w0 blk off d1 wr := ⟨d, rfl, by
       show _ = _
       rw [HDL.out, show A2 = [] from List.eq_nil_of_length_eq_zero (by have := HLL.out; omega)]; simp, S1.out⟩
      have SA : Aside _ := hw1
      have hds1 : d1.size ≤ d.size ∧ d.size ≤ d1.size := by omega
      clear hw1
      obtain ⟨C1, d2, hd2, hp1, hs1, hl2, hw2⟩ : ∃ (C1 : List α) (d2 : Array α), d2.size = d1.size ∧ C1.Perm (A1 ++ B1) ∧ Srt Rr C1 ∧ d2.toList = pre ++ (C1 ++ (A2 ++ (B2 ++ post))) ∧ SWK enc k w0 blk off d2 wr := ⟨A1 ++ B1, d1, rfl, List.Perm.refl _, by
       rw [show B1 = [] from List.eq_nil_of_length_eq_zero (by have := HLL.out; omega)]; simpa using HK.out.s1, by rw [hl1.out]; simp, SA.out⟩
      have SB : Aside _ := hw2
      have HP1 : Aside _ := And.intro hp1 hs1
      have HL2 : Hid _ := hl2
      have hds2 : d2.size ≤ d.size ∧ d.size ≤ d2.size := by omega
      have HC1 : Aside (C1.length = A1.length + B1.length) := by show _ = _; rw [hp1.length_eq]; simp
      clear hw2 hp1 hs1 hl2 hl1 SA hd2 hd1
      obtain ⟨C2, d3, hd3, hp2, hs2, hl3, hw3⟩ : ∃ (C2 : List α) (d3 : Array α), d3.size = d2.size ∧ C2.Perm (A2 ++ B2) ∧ Srt Rr C2 ∧ Hid (d3.toList = (pre ++ C1) ++ (C2 ++ post)) ∧ SWK enc k w0 blk off d3 wr := ⟨A2 ++ B2, d2, rfl, List.Perm.refl _, by
       rw [show A2 = [] from List.eq_nil_of_length_eq_zero (by have := HLL.out; omega)]; simpa using HK.out.s4, by show _ = _; rw [HL2.out]; simp, SB.out⟩
      have HP2 : Aside _ := And.intro hp2 hs2
      clear hp2 hs2
      have SC : Aside _ := hw3
      clear hw3
      go_wp2
      all_goals go_end0
      all_goals obtain ⟨r1, r2⟩ := merge_join HK.out.cr HP1.out.1 HP2.out.1 HP1.out.2 HP2.out.2
      all_goals exact ⟨rfl, C1 ++ C2, d3, by omega, by rw [HK.out.hA, HK.out.hB]; exact r2, r1, by rw [hl3.out]; simp, SC.out⟩
   ·have c1z : ¬ (a : Int) < (i : Int) := by omega
    have c2 : i < m := by omega
    have c2z : (i : Int) < (m : Int) := by omega
    have c2y : (mid : Int) < (e : Int) := by omega
    by_cases c3 : m < e
    ·have c3z : (m : Int) < (e : Int) := by omega
     have c3y : (i : Int) < (mid : Int) := by omega
     by_cases c4 : e < b
     ·have c4z : (e : Int) < (b : Int) := by omega
      have zz : True := trivial
      go_wp2_with fail
      go_at_fn 64
      refine (rotate_any T F F1 enc _ blk off cap d0 d w0 _ R hs S1.out (by omega) (pre ++ A1) A2 B1 (B2 ++ post) (by rw [HDL.out]; simp) (by have := HLL.out; omega) (by have := HLL.out; omega) d.size rfl (by have := HLL.out; have := HPL.out; simp; omega) (by have := HLL.out; have := HPL.out; simp; omega) (by have := HLL.out; have := HPL.out; simp; omega)).mono ?_
      rintro _ w1 ⟨rfl, d1, hd1, hl1, hw1⟩
      replace hl1 : Hid (d1.toList = pre ++ (A1 ++ (B1 ++ (A2 ++ (B2 ++ post))))) := by show _ = _; rw [hl1]; simp
      have SA : Aside _ := hw1
      have hds1 : d1.size ≤ d.size ∧ d.size ≤ d1.size := by omega
      clear hw1
      obtain ⟨C1, d2, hd2, hp1, hs1, hl2, hw2⟩ : ∃ (C1 : List α) (d2 : Array α), d2.size = d1.size ∧ C1.Perm (A1 ++ B1) ∧ Srt Rr C1 ∧ d2.toList = pre ++ (C1 ++ (A2 ++ (B2 ++ post))) ∧ SWK enc k w0 blk off d2 w1 := ⟨A1 ++ B1, d1, rfl, List.Perm.refl _, by
       rw [show A1 = [] from List.eq_nil_of_length_eq_zero (by have := HLL.out; omega)]; simpa using HK.out.s3, by rw [hl1.out]; simp, SA.out⟩
      have SB : Aside _ := hw2
      have HP1 : Aside _ := And.intro hp1 hs1
      have HL2 : Hid _ := hl2
      have hds2 : d2.size ≤ d.size ∧ d.size ≤ d2.size := by omega
      have HC1 : Aside (C1.length = A1.length + B1.length) := by show _ = _; rw [hp1.length_eq]; simp
      clear hw2 hp1 hs1 hl2 hl1 SA hd2 hd1
      go_wp2_with fail
      go_at_fn 60
      refine (HIH.out d2 _ (pre ++ C1) A2 B2 post (by omega) SB.out (by rw [HL2.out]; simp) (by have := HLL.out; have := HPL.out; omega) (by have := HLL.out; omega) (by have := HLL.out; omega) HK.out.s2 HK.out.s4 (fun x hx y hy => HO.out.2.2.1 x (HM.out.2.1 x hx) y (HM.out.2.2.2 y hy)) d.size _ _ _ (by omega) (by have := HLL.out; have := HPL.out; have := HE.out; have := HC1.out; simp; omega) (by have := HLL.out; have := HPL.out; have := HE.out; have := HC1.out; simp; omega) (by have := HLL.out; have := HPL.out; have := HE.out; have := HC1.out; simp; omega)).mono ?_
      rintro _ w3 ⟨rfl, C2, d3, hd3, hp2, hs2, hl3, hw3⟩
      replace hl3 : Hid _ := hl3
      have HP2 : Aside _ := And.intro hp2 hs2
      clear hp2 hs2
      have SC : Aside _ := hw3
      clear hw3
      go_wp2
      all_goals go_end0
      all_goals obtain ⟨r1, r2⟩ := merge_join HK.out.cr HP1.out.1 HP2.out.1 HP1.out.2 HP2.out.2
      all_goals exact ⟨rfl, C1 ++ C2, d3, by omega, by rw [HK.out.hA, HK.out.hB]; exact r2, r1, by rw [hl3.out]; simp, SC.out⟩
     ·have c4z : ¬ (e : Int) < (b : Int) := by omega
      have zz : True := trivial
      go_wp2_with fail
      go_at_fn 64
      refine (rotate_any T F F1 enc _ blk off cap d0 d w0 _ R hs S1.out (by omega) (pre ++ A1) A2 B1 (B2 ++ post) (by rw [HDL.out]; simp) (by have := HLL.out; omega) (by have := HLL.out; omega) d.size rfl (by have := HLL.out; have := HPL.out; simp; omega) (by have := HLL.out; have := HPL.out; simp; omega) (by have := HLL.out; have := HPL.out; simp; omega)).mono ?_
      rintro _ w1 ⟨rfl, d1, hd1, hl1, hw1⟩
      replace hl1 : Hid (d1.toList = pre ++ (A1 ++ (B1 ++ (A2 ++ (B2 ++ post))))) := by show _ = _; rw [hl1]; simp
      have SA : Aside _ := hw1
      have hds1 : d1.size ≤ d.size ∧ d.size ≤ d1.size := by omega
      clear hw1
      obtain ⟨C1, d2, hd2, hp1, hs1, hl2, hw2⟩ : ∃ (C1 : List α) (d2 : Array α), d2.size = d1.size ∧ C1.Perm (A1 ++ B1) ∧ Srt Rr C1 ∧ d2.toList = pre ++ (C1 ++ (A2 ++ (B2 ++ post))) ∧ SWK enc k w0 blk off d2 w1 := ⟨A1 ++ B1, d1, rfl, List.Perm.refl _, by
       rw [show A1 = [] from List.eq_nil_of_length_eq_zero (by have := HLL.out; omega)]; simpa using HK.out.s3, by rw [hl1.out]; simp, SA.out⟩
      have SB : Aside _ := hw2
      have HP1 : Aside _ := And.intro hp1 hs1
      have HL2 : Hid _ := hl2
      have hds2 : d2.size ≤ d.size ∧ d.size ≤ d2.size := by omega
      have HC1 : Aside (C1.length = A1.length + B1.length) := by show _ = _; rw [hp1.length_eq]; simp
      clear hw2 hp1 hs1 hl2 hl1 SA hd2 hd1
      obtain ⟨C2, d3, hd3, hp2, hs2, hl3, hw3⟩ : ∃ (C2 : List α) (d3 : Array α), d3.size = d2.size ∧ C2.Perm (A2 ++ B2) ∧ Srt Rr C2 ∧ Hid (d3.toList = (pre ++ C1) ++ (C2 ++ post)) ∧ SWK enc k w0 blk off d3 w1 := ⟨A2 ++ B2, d2, rfl, List.Perm.refl _, by
       rw [show B2 = [] from List.eq_nil_of_length_eq_zero (by have := HLL.out; omega)]; simpa using HK.out.s2, by show _ = _; rw [HL2.out]; simp, SB.out⟩
      have HP2 : Aside _ := And.intro hp2 hs2
      clear hp2 hs2
      have SC : Aside _ := hw3
      clear hw3
      go_wp2
      all_goals go_end0
      all_goals obtain ⟨r1, r2⟩ := merge_join HK.out.cr HP1.out.1 HP2.out.1 HP1.out.2 HP2.out.2
      all_goals exact ⟨rfl, C1 ++ C2, d3, by omega, by rw [HK.out.hA, HK.out.hB]; exact r2, r1, by rw [hl3.out]; simp, SC.out⟩
    ·have c3z : ¬ (m : Int) < (e : Int) := by omega
     have c3y : ¬ (i : Int) < (mid : Int) := by omega
     have c4 : e < b := by omega
     have c4z : (e : Int) < (b : Int) := by omega
     have zz : True := trivial
     obtain ⟨d1, hd1, hl1, hw1⟩ : ∃ d1 : Array α, d1.size = d.size ∧ Hid (d1.toList = pre ++ (A1 ++ (B1 ++ (A2 ++ (B2 ++ post))))) ∧ SWK enc k w0 blk off d1 wr := ⟨d, rfl, by
      show _ = _
      rw [HDL.out, show B1 = [] from List.eq_nil_of_length_eq_zero (by have := HLL.out; omega)]; simp, S1.out⟩
     have SA : Aside _ := hw1
     have hds1 : d1.size ≤ d.size ∧ d.size ≤ d1.size := by omega
     clear hw1
     obtain ⟨C1, d2, hd2, hp1, hs1, hl2, hw2⟩ : ∃ (C1 : List α) (d2 : Array α), d2.size = d1.size ∧ C1.Perm (A1 ++ B1) ∧ Srt Rr C1 ∧ d2.toList = pre ++ (C1 ++ (A2 ++ (B2 ++ post))) ∧ SWK enc k w0 blk off d2 wr := ⟨A1 ++ B1, d1, rfl, List.Perm.refl _, by
      rw [show A1 = [] from List.eq_nil_of_length_eq_zero (by have := HLL.out; omega)]; simpa using HK.out.s3, by rw [hl1.out]; simp, SA.out⟩
     have SB : Aside _ := hw2
     have HP1 : Aside _ := And.intro hp1 hs1
     have HL2 : Hid _ := hl2
     have hds2 : d2.size ≤ d.size ∧ d.size ≤ d2.size := by omega
     have HC1 : Aside (C1.length = A1.length + B1.length) := by show _ = _; rw [hp1.length_eq]; simp
     clear hw2 hp1 hs1 hl2 hl1 SA hd2 hd1
     go_wp2_with fail
     go_at_fn 60
     refine (HIH.out d2 _ (pre ++ C1) A2 B2 post (by omega) SB.out (by rw [HL2.out]; simp) (by have := HLL.out; have := HPL.out; omega) (by have := HLL.out; omega) (by have := HLL.out; omega) HK.out.s2 HK.out.s4 (fun x hx y hy => HO.out.2.2.1 x (HM.out.2.1 x hx) y (HM.out.2.2.2 y hy)) d.size _ _ _ (by omega) (by have := HLL.out; have := HPL.out; have := HE.out; have := HC1.out; simp; omega) (by have := HLL.out; have := HPL.out; have := HE.out; have := HC1.out; simp; omega) (by have := HLL.out; have := HPL.out; have := HE.out; have := HC1.out; simp; omega)).mono ?_
     rintro _ w3 ⟨rfl, C2, d3, hd3, hp2, hs2, hl3, hw3⟩
     replace hl3 : Hid _ := hl3
     have HP2 : Aside _ := And.intro hp2 hs2
     clear hp2 hs2
     have SC : Aside _ := hw3
     clear hw3
     go_wp2
     all_goals go_end0
     all_goals obtain ⟨r1, r2⟩ := merge_join HK.out.cr HP1.out.1 HP2.out.1 HP1.out.2 HP2.out.2
     all_goals exact ⟨rfl, C1 ++ C2, d3, by omega, by rw [HK.out.hA, HK.out.hB]; exact r2, r1, by rw [hl3.out]; simp, SC.out⟩
end Go.Proofs.Ythlingholhjcnaa
namespace Go.Proofs.Ythlingholhjcnaa
open Go.Shelf Go.RowKit Go.Lib Go.Sort
section
variable {α : Type}
inductive Ch (R : α → α → Bool) (ix : α → Nat) (bs : Nat) : List α → Prop
 | nil : Ch R ix bs []
 | last (l : List α) (h0 : 0 < l.length) (h1 : l.length ≤ bs) (hs : Srt R l) : Ch R ix bs l
 | cons (A r : List α) (hA : A.length = bs) (hs : Srt R A) (hr : Ch R ix bs r) (hc : ∀ x ∈ A, ∀ y ∈ r, ix x < ix y) : Ch R ix bs (A ++ r)
inductive Full (R : α → α → Bool) (ix : α → Nat) (bs : Nat) : List α → Prop
 | nil : Full R ix bs []
 | snoc (l A : List α) (hl : Full R ix bs l) (hA : A.length = bs) (hs : Srt R A) (hc : ∀ x ∈ l, ∀ y ∈ A, ix x < ix y) : Full R ix bs (l ++ A)
variable {R : α → α → Bool} {ix : α → Nat} {bs : Nat}
theorem Full.ch {l : List α} (h : Full R ix bs l) : ∀ r, Ch R ix bs r → (∀ x ∈ l, ∀ y ∈ r, ix x < ix y) → Ch R ix bs (l ++ r) := by
 induction h with
 | nil => intro r hr _; exact hr
 | snoc l A hl hA hs hc ih =>
  intro r hr hx
  rw [List.append_assoc]
  refine ih _ (.cons A r hA hs hr fun x hx' y hy => hx x (List.mem_append_right _ hx') y hy) fun x hx' y hy => ?_
  rcases List.mem_append.1 hy with h | h
  ·exact hc x hx' y h
  ·exact hx x (List.mem_append_left _ hx') y h
theorem Ch.short {l : List α} (h : Ch R ix bs l) (hl : l.length ≤ bs) : Srt R l := by
 cases h with
 | nil => exact List.Pairwise.nil
 | last _ _ _ hs => exact hs
 | cons A r hA hs hr hc =>
  have : r = [] := List.eq_nil_of_length_eq_zero (by simp at hl; omega)
  rw [this]; simpa using hs
theorem Ch.of_srt {l : List α} (hs : Srt R l) (hl : l.length ≤ bs) : Ch R ix bs l := by
 cases l with
 | nil => exact .nil
 | cons a l => exact .last _ (by simp) hl hs
theorem Ch.more {l : List α} (h : Ch R ix bs l) (hl : bs < l.length) : ∃ A r, l = A ++ r ∧ A.length = bs ∧ Srt R A ∧ Ch R ix bs r ∧ ∀ x ∈ A, ∀ y ∈ r, ix x < ix y := by
 cases h with
 | nil => simp at hl
 | last _ _ h1 _ => omega
 | cons A r hA hs hr hc => exact ⟨A, r, rfl, hA, hs, hr, hc⟩
theorem Ch.two {l : List α} (h : Ch R ix bs l) (hb : 0 < bs) (hl : 2 * bs ≤ l.length) : ∃ A B r, l = A ++ (B ++ r) ∧ A.length = bs ∧ B.length = bs ∧ Srt R A ∧ Srt R B ∧ Ch R ix bs r ∧ (∀ x ∈ A, ∀ y ∈ B, ix x < ix y) ∧ ∀ x ∈ A ++ B, ∀ y ∈ r, ix x < ix y := by
 obtain ⟨A, r, rfl, hA, hs, hr, hc⟩ := h.more (by omega)
 by_cases h2 : bs < r.length
 ·obtain ⟨B, r', rfl, hB, hs2, hr2, hc2⟩ := hr.more h2
  refine ⟨A, B, r', rfl, hA, hB, hs, hs2, hr2, fun x hx y hy => hc x hx y (List.mem_append_left _ hy), fun x hx y hy => ?_⟩
  rcases List.mem_append.1 hx with h | h
  ·exact hc x h y (List.mem_append_right _ hy)
  ·exact hc2 x h y hy
 ·refine ⟨A, r, [], by simp, hA, by simp at hl; omega, hs, hr.short (by omega), .nil, hc, fun x _ y hy => by cases hy⟩
end
variable {P : Program} {k : Nat} {α : Type} [Inhabited α]
theorem symMerge_all (T : StT P k) (F : P.funcs[65]? = some Try.f65) (F1 : P.funcs[64]? = some Try.f64) (F2 : P.funcs[60]? = some Try.f60) (enc : α → List Value) (cf : α → α → Int) (Rr : α → α → Bool) (hO : SWO Rr) (g : Nat) (cb : Array Value) (blk off cap : Nat) (d0 : Array α) (w0 : World)
  (eg : ∀ args w, (callFunc g args).run P w = .ok (.enter g args) w) (hcmp : CmpLays P g cb enc k cf blk off d0.size w0)
  (R : RowK enc k w0 blk off d0) (hsz : d0.size < 2305843009213693952) : ∀ N, SymC P enc k cf Rr g cb blk off cap d0 w0 N
 | 0 => fun _ _ _ _ _ _ _ _ _ h => absurd h (Nat.not_lt_zero _)
 | N + 1 => fun d w pre A B post hs S hd hN hA hB hsA hsB hx n x y z hn hx1 hy hz => by
  have IH := symMerge_all T F F1 F2 enc cf Rr hO g cb blk off cap d0 w0 eg hcmp R hsz N
  by_cases h1 : A.length = 1
  ·obtain ⟨xa, rfl⟩ := List.length_eq_one_iff.1 h1
   exact symMerge_one T F2 enc cf Rr hO g cb blk off cap d0 d w0 w eg hcmp R hs S (by omega) pre xa B post hd hB hsB (fun y hy => hx xa (by simp) y hy) n hn hx1 (by simpa using hy) (by simpa using hz)
  by_cases h2 : B.length = 1
  ·obtain ⟨yb, rfl⟩ := List.length_eq_one_iff.1 h2
   exact symMerge_last T F2 enc cf Rr hO g cb blk off cap d0 d w0 w eg hcmp R hs S (by omega) pre A yb post hd (by omega) hsA (fun x hx' => hx x hx' yb (by simp)) n hn hx1 hy (by simpa using hz)
  by_cases h3 : (pre.length + (pre.length + A.length + B.length)) / 2 < pre.length + A.length
  ·exact symMerge_hi T F F1 F2 enc cf Rr hO g cb blk off cap d0 d w0 w eg hcmp R hs S (by omega) N IH pre A B post hd (by omega) (by omega) (by omega) hsA hsB hx n hn hx1 hy hz h3
  ·exact symMerge_lo T F F1 F2 enc cf Rr hO g cb blk off cap d0 d w0 w eg hcmp R hs S (by omega) N IH pre A B post hd (by omega) (by omega) (by omega) hsA hsB hx n hn hx1 hy hz h3
def Stren : Go.Shelf.Ren := ⟨fun | 20 => 59 | n => n, fun | 24 => 42 | 22 => 33 | 3 => 3 | 25 => 104 | 4 => 4 | 0 => 0 | n => n, fun | n => n⟩
theorem insertion_at (T : StT P k) (L : Go.Proofs.SlLaysF0.n20 P Stren) (enc : α → List Value) (cf : α → α → Int) (hO : SWO (ltOf cf)) (ix : α → Nat) (g : Nat) (cb : Array Value) (blk off cap : Nat) (d0 d : Array α) (w0 w : World)
  (eg : ∀ args w, (callFunc g args).run P w = .ok (.enter g args) w) (hcmp : CmpLays P g cb enc k cf blk off d0.size w0)
  (R : RowK enc k w0 blk off d0) (hs : d0.size = d.size) (S : SWK enc k w0 blk off d w) (hsz : d.size < 2305843009213693952)
  (pre X post : List α) (hd : d.toList = pre ++ (X ++ post)) (hix : X.Pairwise fun x y => ix x < ix y) (n : Nat) (hn : n = d.size) {x y : Int} (hx1 : x = (pre.length : Nat)) (hy : y = (pre.length + X.length : Nat)) :
  Calls P 59 #[.slice (some ⟨blk, off, none⟩) n cap, .int .i64 x, .int .i64 y, .func (.func g) #[] cb] w fun e w' =>
   e = .returned (.tuple #[]) ∧ ∃ (X' : List α) (d' : Array α), d'.size = d.size ∧ X'.Perm X ∧ Srt (lexR (ltOf cf) ix) X' ∧ d'.toList = pre ++ (X' ++ post) ∧ SWK enc k w0 blk off d' w' := by
 subst hn hx1 hy
 have hdl : d.size = pre.length + X.length + post.length := by
  have := congrArg List.length hd
  simp at this; omega
 have hC : CmpLays P g cb enc k cf blk off d.size w := fun m os dk hdk x y => by
  obtain ⟨n0, os0, rfl⟩ := S
  rw [sortWorldK_on enc k w0 blk off n0 m d dk os0 os R.hblk hdk]
  exact hcmp _ _ dk (by omega) x y
 obtain ⟨X', h1, h2, h3⟩ := insertion_lex (ix := ix) hO (d := d) (pre := pre) (X := X) (post := post) (by rw [hd]; simp) hix
 have hs' : (Sort.insertionSort (ltOf cf) d pre.length (pre.length + X.length)).size = d.size := by
  rw [← Array.length_toList, h1, ← Array.length_toList, hd]
  simp [h2.length_eq]
 refine (AnyQ.insertionSortCmpFunc (P := P) (ρ := Stren) L k T.aE T.zE enc R.hk R.h1 cf g cb blk off cap pre.length (pre.length + X.length) d w eg hC (S.holds R.hblk R.hH hs.symm) (S.lt R.hblk) (by omega) (by omega) (by omega)).mono ?_
 rintro e w' ⟨rfl, n, os, rfl⟩
 exact ⟨rfl, X', _, hs', h2, h3, by rw [h1]; simp, S.on R.hblk n _ os hs'⟩
set_option maxHeartbeats 16000000 in
set_option maxRecDepth 1000000 in
theorem stable_any (T : StT P k) (F : P.funcs[65]? = some Try.f65) (F1 : P.funcs[64]? = some Try.f64) (F2 : P.funcs[60]? = some Try.f60) (F3 : P.funcs[52]? = some Try.f52) (L : Go.Proofs.SlLaysF0.n20 P Stren) (e59 : ∀ args w, (callFunc 59 args).run P w = .ok (.enter 59 args) w) (enc : α → List Value) (cf : α → α → Int) (hO : SWO (ltOf cf)) (ix : α → Nat) (g : Nat) (cb : Array Value) (blk off cap : Nat) (d0 : Array α) (w0 : World)
  (eg : ∀ args w, (callFunc g args).run P w = .ok (.enter g args) w) (hcmp : CmpLays P g cb enc k cf blk off d0.size w0)
  (R : RowK enc k w0 blk off d0) (hsz : d0.size < 1152921504606846976) (hix : d0.toList.Pairwise fun x y => ix x < ix y) :
  Calls P 52 #[.slice (some ⟨blk, off, none⟩) d0.size cap, .int .i64 (d0.size : Nat), .func (.func g) #[] cb] w0 fun e w' =>
   e = .returned (.tuple #[]) ∧ ∃ d' : Array α, d'.size = d0.size ∧ d'.toList.Perm d0.toList ∧ Srt (lexR (ltOf cf) ix) d'.toList ∧ SWK enc k w0 blk off d' w' := by
 have mixed := T.mixed; have t0 := T.t0; have a0 := T.a0; have z0 := T.z0; have v0 := T.v0; have t3 := T.t3; have a3 := T.a3; have z3 := T.z3; have v3 := T.v3; have t4 := T.t4; have a4 := T.a4; have z4 := T.z4; have v4 := T.v4; have t22 := T.t22; have a22 := T.a22; have z22 := T.z22; have v22 := T.v22; have t25 := T.t25; have a25 := T.a25; have z25 := T.z25; have v25 := T.v25
 have e60 : ∀ args w, (callFunc 60 args).run P w = .ok (.enter 60 args) w := enters_of F2 (by kernel_rfl) rfl
 have hR := swo_lex (ix := ix) hO
 obtain ⟨Rr, hRr⟩ : ∃ Rr, Rr = lexR (ltOf cf) ix := ⟨_, rfl⟩
 rw [← hRr] at hR
 have hcr : ∀ A B : List α, (∀ x ∈ A, ∀ y ∈ B, ix x < ix y) → ∀ x ∈ A, ∀ y ∈ B, ltOf cf y x = Rr y x := fun A B h x hx y hy => by rw [hRr]; exact (lex_cross (h x hx y hy)).symm
 have HCR : Aside _ := hcr
 have S0 : Aside (SWK enc k w0 blk off d0 w0) := SWK.start R.hH
 have HC : Aside _ := hcmp
 have HIX : Aside (d0.toList.Pairwise fun x y => ix x < ix y) := hix
 have hins : ∀ (d : Array α) (w : World) (pre X post : List α), d.size = d0.size → SWK enc k w0 blk off d w → d.toList = pre ++ (X ++ post) → (X.Pairwise fun x y => ix x < ix y) → ∀ x y : Int, x = (pre.length : Nat) → y = (pre.length + X.length : Nat) → ∀ fv, fv = Value.func (.func g) #[] cb →
  Calls P 59 #[.slice (some ⟨blk, off, none⟩) d0.size cap, .int .i64 x, .int .i64 y, fv] w fun e w' =>
   e = .returned (.tuple #[]) ∧ ∃ (X' : List α) (d' : Array α), d'.size = d.size ∧ X'.Perm X ∧ Srt Rr X' ∧ d'.toList = pre ++ (X' ++ post) ∧ SWK enc k w0 blk off d' w' := fun d w pre X post hs S hd hX x y hx hy fv hf => by
  subst hf
  rw [hRr]
  exact insertion_at T L enc cf hO ix g cb blk off cap d0 d w0 w eg hcmp R hs.symm S (by omega) pre X post hd hX d0.size hs.symm hx hy
 have hsym : ∀ N, SymC P enc k cf Rr g cb blk off cap d0 w0 N := fun N => symMerge_all T F F1 F2 enc cf Rr hR g cb blk off cap d0 w0 eg hcmp R (by omega) N
 have HINS : Aside _ := hins
 have HSYM : Aside _ := hsym
 have HRR : Aside _ := hRr
 clear hins hsym hcr hcmp hix hRr hR
 rw [← HRR.out]
 obtain ⟨n, hn⟩ : ∃ n, n = d0.size := ⟨_, rfl⟩
 have HN : Aside _ := hn
 rw [← hn] at hsz ⊢
 clear hn
 go_enter F3, Try.ntmps52
 go_wp2
 go_loopg [7, 8] n (fun kx s7 s8 wr => ∃ (a : Nat) (dk : Array α) (D X : List α), s7 = .int .i64 a ∧ s8 = .int .i64 ((a : Int) + 20) ∧ a ≤ n ∧ n - a ≤ kx ∧
  Aside (dk.size = d0.size ∧ dk.toList = D ++ X ∧ D.length = a ∧ Full Rr ix 20 D ∧ (X.Pairwise fun x y => ix x < ix y) ∧ (∀ x ∈ D, ∀ y ∈ X, ix x < ix y) ∧ dk.toList.Perm d0.toList) ∧ Aside (SWK enc k w0 blk off dk wr))
 case atStart => exact ⟨0, d0, [], d0.toList, by go_num, by go_num, by omega, by omega, ⟨rfl, rfl, rfl, .nil, HIX.out, (fun x hx => absurd hx List.not_mem_nil), List.Perm.refl _⟩, S0⟩
 case round =>
  clear S0
  obtain ⟨a, dk, D, X, rfl, rfl, han, hkx, HI, S1⟩ := hrel
  by_cases hlt : a + 20 ≤ n
  ·have hltz : (a : Int) + 20 ≤ (n : Int) := by omega
   go_wp2_with fail
   go_at_fn 59
   obtain ⟨i1, i2, i3, i4, i5, i6, i7⟩ := HI.out
   have hl : D.length + X.length = n := by
    have := congrArg List.length i2
    rw [Array.length_toList, List.length_append] at this
    have := HN.out; omega
   have hcon := HINS.out dk wr D (X.take 20) (X.drop 20) i1 S1.out (by rw [i2, List.take_append_drop]) (i5.sublist (List.take_sublist _ _)) (a : Int) ((a : Int) + 20) (by rw [i3]) (by rw [List.length_take]; omega) _ rfl
   rw [← HN.out] at hcon
   refine hcon.mono ?_
   rintro _ w1 ⟨rfl, X', d1, k1, k2, k3, k4, k5⟩
   have hcross : ∀ x ∈ X', ∀ y ∈ X.drop 20, ix x < ix y := fun x hx y hy => by
    have := List.pairwise_append.1 (show (X.take 20 ++ X.drop 20).Pairwise _ by rw [List.take_append_drop]; exact i5)
    exact this.2.2 x (k2.mem_iff.1 hx) y hy
   have R1 : Aside (d1.size = d0.size ∧ d1.toList = (D ++ X') ++ X.drop 20 ∧ (D ++ X').length = a + 20 ∧ Full Rr ix 20 (D ++ X') ∧ ((X.drop 20).Pairwise fun x y => ix x < ix y) ∧ (∀ x ∈ D ++ X', ∀ y ∈ X.drop 20, ix x < ix y) ∧ d1.toList.Perm d0.toList) := by
    have e20 : X'.length = 20 := by rw [k2.length_eq, List.length_take]; omega
    refine ⟨by omega, by rw [k4]; simp, by rw [List.length_append]; omega, .snoc _ _ i4 e20 k3 fun x hx y hy => i6 x hx y (List.mem_of_mem_take (k2.mem_iff.1 hy)), i5.sublist (List.drop_sublist _ _), fun x hx y hy => ?_, ?_⟩
    ·rcases List.mem_append.1 hx with h | h
     ·exact i6 x h y (List.mem_of_mem_drop hy)
     ·exact hcross x h y hy
    ·refine List.Perm.trans ?_ i7
     rw [k4, i2]
     refine List.Perm.append_left D ?_
     conv => rhs; rw [← List.take_append_drop 20 X]
     exact k2.append_right _
   have S2 : Aside _ := k5
   clear hcon i1 i2 i3 i4 i5 i6 i7 k1 k2 k3 k4 k5 S1 hcross hl
   go_wp2
   go_roundg (n - (a + 20))
   case measure => omega
   case rel => exact ⟨a + 20, d1, D ++ X', X.drop 20, by go_num, by go_num, by omega, Nat.le_refl _, R1, S2⟩
  ·have hltz : ¬ (a : Int) + 20 ≤ (n : Int) := by omega
   go_wp2_with fail
   go_at_fn 59
   obtain ⟨i1, i2, i3, i4, i5, i6, i7⟩ := HI.out
   have hl : D.length + X.length = n := by
    have := congrArg List.length i2
    rw [Array.length_toList, List.length_append] at this
    have := HN.out; omega
   have hcon := HINS.out dk wr D X [] i1 S1.out (by rw [i2, List.append_nil]) i5 (a : Int) (n : Int) (by rw [i3]) (by omega) _ rfl
   rw [← HN.out] at hcon
   refine hcon.mono ?_
   rintro _ w1 ⟨rfl, X', d1, k1, k2, k3, k4, k5⟩
   have hl2 : X'.length = X.length := k2.length_eq
   have R1 : Aside (d1.size = d0.size ∧ Ch Rr ix 20 d1.toList ∧ d1.toList.Perm d0.toList) := by
    refine ⟨by omega, ?_, ?_⟩
    ·rw [k4, List.append_nil]
     exact i4.ch _ (Ch.of_srt k3 (by omega)) fun x hx y hy => i6 x hx y (k2.mem_iff.1 hy)
    ·refine List.Perm.trans ?_ i7
     rw [k4, i2, List.append_nil]
     exact k2.append_left D
   have S2 : Aside _ := k5
   clear hcon i1 i2 i3 i4 i5 i6 i7 k1 k2 k3 k4 k5 S1 hl hl2 HI
   go_wp2
   go_loopg [6] n (fun kx s6 wr => ∃ (bs : Nat) (dk : Array α), s6 = .int .i64 bs ∧ 20 ≤ bs ∧ bs ≤ 2 * n + 20 ∧ n - bs ≤ kx ∧
    Aside (dk.size = d0.size ∧ Ch Rr ix bs dk.toList ∧ dk.toList.Perm d0.toList) ∧ Aside (SWK enc k w0 blk off dk wr))
   case atStart => exact ⟨20, d1, rfl, by omega, by omega, by omega, R1, S2⟩
   case round =>
    clear S2 R1
    obtain ⟨bs, dk, rfl, h20, hbs, hkx2, HI, S1⟩ := hrel
    by_cases hbn : bs < n
    ·have hbnz : (bs : Int) < (n : Int) := by omega
     go_wp2
     go_loopg [7, 8] n (fun kx s7 s8 wr => ∃ (a : Nat) (dk : Array α) (D X : List α), s7 = .int .i64 a ∧ s8 = .int .i64 ((a : Int) + 2 * (bs : Int)) ∧ a ≤ n ∧ n - a ≤ kx ∧
      Aside (dk.size = d0.size ∧ dk.toList = D ++ X ∧ D.length = a ∧ Full Rr ix (2 * bs) D ∧ Ch Rr ix bs X ∧ (∀ x ∈ D, ∀ y ∈ X, ix x < ix y) ∧ dk.toList.Perm d0.toList) ∧ Aside (SWK enc k w0 blk off dk wr))
     case atStart => exact ⟨0, dk, [], dk.toList, by go_num, by go_num, by omega, by omega, ⟨HI.out.1, rfl, rfl, .nil, HI.out.2.1, (fun x hx => absurd hx List.not_mem_nil), HI.out.2.2⟩, S1⟩
     case round =>
      clear S1 HI
      obtain ⟨a, dk, D, X, rfl, rfl, han, hkx3, HI, S1⟩ := hrel
      by_cases hlt : a + 2 * bs ≤ n
      ·have hltz : (a : Int) + 2 * (bs : Int) ≤ (n : Int) := by omega
       obtain ⟨i1, i2, i3, i4, i5, i6, i7⟩ := HI.out
       have hl : D.length + X.length = n := by
        have := congrArg List.length i2
        rw [Array.length_toList, List.length_append] at this
        have := HN.out; omega
       obtain ⟨A, B, r, rfl, hA, hB, hsA, hsB, hr, hAB, hABr⟩ := i5.two (by omega) (by omega)
       have hcon := fun x y z hx hy hz => HSYM.out (A.length + B.length + 1) dk wr D A B r i1.symm S1.out i2 (by omega) (by omega) (by omega) hsA hsB (HCR.out A B hAB) n x y z (by have := HN.out; omega) hx hy hz
       have HCON : Aside _ := hcon
       have HII : Aside _ := And.intro i1 (And.intro i2 (And.intro i3 (And.intro i4 (And.intro hr (And.intro i6 (And.intro i7 (And.intro hAB (And.intro hABr (And.intro hA hB)))))))))
       clear hcon i1 i2 i3 i4 i5 i6 i7 hA hB hsA hsB hr hAB hABr HI hl
       go_wp2_with fail
       go_at_fn 60
       obtain ⟨i1, i2, i3, i4, hr, i6, i7, hAB, hABr, hA, hB⟩ := HII.out
       refine (HCON.out _ _ _ (by omega) (by omega) (by omega)).mono ?_
       rintro _ w1 ⟨rfl, C, d1, k1, k2, k3, k4, k5⟩
       have R1 : Aside (d1.size = d0.size ∧ d1.toList = (D ++ C) ++ r ∧ (D ++ C).length = a + 2 * bs ∧ Full Rr ix (2 * bs) (D ++ C) ∧ Ch Rr ix bs r ∧ (∀ x ∈ D ++ C, ∀ y ∈ r, ix x < ix y) ∧ d1.toList.Perm d0.toList) := by
        have eC : C.length = 2 * bs := by rw [k2.length_eq, List.length_append]; omega
        refine ⟨by omega, by rw [k4]; simp, by rw [List.length_append]; omega, .snoc _ _ i4 eC k3 fun x hx y hy => i6 x hx y (by rw [← List.append_assoc]; exact List.mem_append_left _ (k2.mem_iff.1 hy)), hr, fun x hx y hy => ?_, ?_⟩
        ·rcases List.mem_append.1 hx with h | h
         ·exact i6 x h y (List.mem_append_right _ (List.mem_append_right _ hy))
         ·exact hABr x (k2.mem_iff.1 h) y hy
        ·refine List.Perm.trans ?_ i7
         rw [k4, i2]
         refine List.Perm.append_left D ?_
         rw [← List.append_assoc]
         exact k2.append_right _
       have S2 : Aside _ := k5
       clear i1 i2 i3 i4 hr i6 i7 hAB hABr hA hB k1 k2 k3 k4 k5 S1 HII HCON
       go_wp2
       go_roundg (n - (a + 2 * bs))
       case measure => omega
       case rel => exact ⟨a + 2 * bs, d1, D ++ C, r, by go_num, by go_num, by omega, Nat.le_refl _, R1, S2⟩
      ·have hltz : ¬ (a : Int) + 2 * (bs : Int) ≤ (n : Int) := by omega
       have hl : D.length = a ∧ D.length + X.length = n := by
        obtain ⟨i1, i2, i3, i4, i5, i6, i7⟩ := HI.out
        have := congrArg List.length i2
        rw [Array.length_toList, List.length_append] at this
        have := HN.out; omega
       have HL : Aside _ := hl
       clear hl
       by_cases hm : a + bs < n
       ·have hmz : (a : Int) + (bs : Int) < (n : Int) := by omega
        obtain ⟨i1, i2, i3, i4, i5, i6, i7⟩ := HI.out
        have hl := HL.out
        obtain ⟨A, B, rfl, hA, hsA, hB, hAB⟩ := i5.more (by omega)
        rw [List.length_append] at hl
        have hsB := hB.short (by omega)
        have hcon := fun x y z hx hy hz => HSYM.out (A.length + B.length + 1) dk wr D A B [] i1.symm S1.out (by rw [i2, List.append_nil]) (by omega) (by omega) (by omega) hsA hsB (HCR.out A B hAB) n x y z (by have := HN.out; omega) hx hy hz
        have HCON : Aside _ := hcon
        have HLB : Aside _ := And.intro hl hA
        clear hcon i1 i2 i3 i4 i5 i6 i7 hA hB hsA hsB hAB hl
        go_wp2_with fail
        go_at_fn 60
        refine (HCON.out _ _ _ (by have := HLB.out; omega) (by have := HLB.out; omega) (by have := HLB.out; omega)).mono ?_
        rintro _ w1 ⟨rfl, C, d1, k1, k2, k3, k4, k5⟩
        have R1 : Aside (d1.size = d0.size ∧ Ch Rr ix (2 * bs) d1.toList ∧ d1.toList.Perm d0.toList) := by
         obtain ⟨i1, i2, i3, i4, i5, i6, i7⟩ := HI.out
         have hlb := HLB.out
         have eC : C.length ≤ 2 * bs := by rw [k2.length_eq, List.length_append]; omega
         refine ⟨by omega, ?_, ?_⟩
         ·rw [k4, List.append_nil]
          exact i4.ch _ (Ch.of_srt k3 eC) fun x hx y hy => i6 x hx y (k2.mem_iff.1 hy)
         ·refine List.Perm.trans ?_ i7
          rw [k4, i2, List.append_nil]
          exact k2.append_left D
        have S2 : Aside _ := k5
        clear k1 k2 k3 k4 k5 S1 HI HCON HLB HL
        go_wp2
        go_roundg (n - 2 * bs)
        case measure => omega
        case rel => exact ⟨2 * bs, d1, by go_num, by omega, by omega, Nat.le_refl _, R1, S2⟩
       ·have hmz : ¬ (a : Int) + (bs : Int) < (n : Int) := by omega
        have R1 : Aside (dk.size = d0.size ∧ Ch Rr ix (2 * bs) dk.toList ∧ dk.toList.Perm d0.toList) := by
         obtain ⟨i1, i2, i3, i4, i5, i6, i7⟩ := HI.out
         have hl := HL.out
         refine ⟨by omega, ?_, i7⟩
         rw [i2]
         exact i4.ch _ (Ch.of_srt (i5.short (by omega)) (by omega)) i6
        clear HI HL
        go_wp2
        go_roundg (n - 2 * bs)
        case measure => omega
        case rel => exact ⟨2 * bs, dk, by go_num, by omega, by omega, Nat.le_refl _, R1, S1⟩
    ·have hbnz : ¬ (bs : Int) < (n : Int) := by omega
     go_wp2
     go_end0
     obtain ⟨i1, i2, i3⟩ := HI.out
     exact ⟨rfl, dk, by have := HN.out; omega, i3, i2.short (by rw [Array.length_toList]; have := HN.out; omega), S1.out⟩
set_option maxHeartbeats 4000000 in
theorem sortStable_any (T : StT P k) (F : P.funcs[65]? = some Try.f65) (F1 : P.funcs[64]? = some Try.f64) (F2 : P.funcs[60]? = some Try.f60) (F3 : P.funcs[52]? = some Try.f52) (F4 : P.funcs[33]? = some Try.f33) (L : Go.Proofs.SlLaysF0.n20 P Stren) (e59 : ∀ args w, (callFunc 59 args).run P w = .ok (.enter 59 args) w) (enc : α → List Value) (cf : α → α → Int) (hO : SWO (ltOf cf)) (ix : α → Nat) (g : Nat) (cb : Array Value) (blk off cap : Nat) (d0 : Array α) (w0 : World)
  (eg : ∀ args w, (callFunc g args).run P w = .ok (.enter g args) w) (hcmp : CmpLays P g cb enc k cf blk off d0.size w0)
  (R : RowK enc k w0 blk off d0) (hsz : d0.size < 1152921504606846976) (hix : d0.toList.Pairwise fun x y => ix x < ix y) :
  Calls P 33 #[.slice (some ⟨blk, off, none⟩) d0.size cap, .func (.func g) #[] cb] w0 fun e w' =>
   e = .returned (.tuple #[]) ∧ ∃ d' : Array α, d'.size = d0.size ∧ d'.toList.Perm d0.toList ∧ Srt (lexR (ltOf cf) ix) d'.toList ∧ SWK enc k w0 blk off d' w' := by
 have mixed := T.mixed; have t0 := T.t0; have a0 := T.a0; have z0 := T.z0; have v0 := T.v0; have t3 := T.t3; have a3 := T.a3; have z3 := T.z3; have v3 := T.v3; have t4 := T.t4; have a4 := T.a4; have z4 := T.z4; have v4 := T.v4; have t22 := T.t22; have a22 := T.a22; have z22 := T.z22; have v22 := T.v22; have t25 := T.t25; have a25 := T.a25; have z25 := T.z25; have v25 := T.v25
 have e52 : ∀ args w, (callFunc 52 args).run P w = .ok (.enter 52 args) w := enters_of F3 (by kernel_rfl) rfl
 have hcon := stable_any T F F1 F2 F3 L e59 enc cf hO ix g cb blk off cap d0 w0 eg hcmp R hsz hix
 have HCON : Aside _ := hcon
 clear hcon hix
 go_enter F4, Try.ntmps33
 go_wp2_with fail
 go_at_fn 52
 refine Calls.mono HCON.out ?_
 rintro _ w1 ⟨rfl, h⟩
 have H : Aside _ := h
 clear h
 go_wp2
 go_end0
 exact ⟨rfl, H.out⟩
end Go.Proofs.Ythlingholhjcnaa
namespace Go.Proofs.Ythlingholhjcnaa
open Go.RowKit
variable {W w w' : World}
theorem dupsP_len (ms : List Mk) : ∀ k, (dupsP ms k).length ≤ k
 | 0 => Nat.le_refl _
 | k + 1 => by
  have := dupsP_len ms k
  unfold dupsP
  split
  ·split
   ·simp; omega
   ·omega
  ·omega
theorem longP_len (ps : List PtR) (l0 : List Ft) : ∀ k, (longP ps l0 k).length ≤ l0.length + k
 | 0 => Nat.le_refl _
 | k + 1 => by
  have := longP_len ps l0 k
  unfold longP
  split
  ·simp; omega
  ·omega
def SeenM (m : List (ByteArray × Bool)) (ms : List Mk) (k : Nat) : Prop := ∀ x, alook m x = if (ms.take k).any (fun y => decide (y.name = x)) = true then some true else none
theorem SeenM.nil (ms : List Mk) : SeenM [] ms 0 := fun x => by simp [alook]
theorem SeenM.put {m : List (ByteArray × Bool)} {ms : List Mk} {k : Nat} (h : SeenM m ms k) (hk : k < ms.length) : SeenM (aset m ms[k].name true) ms (k + 1) := fun x => by
 rw [alook_set, h x, List.take_add_one, List.getElem?_eq_getElem hk, Option.toList_some, List.any_append]
 by_cases e : x = ms[k].name
 ·subst e; simp
 ·have e2 : ¬ ms[k].name = x := fun h => e h.symm
  simp [e, e2]
structure FcI (W : World) (ub : List Value) (ms : List Mk) (k : Nat) (L : List Ft) (v : Value) (w : World) : Prop where
 own : w.ownsRow (W.heap.size + 1 + 1) 42 3 v L.length (L.flatMap Ft.cells)
 map : ∃ m, MapIs Value.string Value.bool w (W.heap.size + 1) m ∧ SeenM m ms k
 box : w.heap[W.heap.size]? = some (.cells ub.toArray 32 (0, 0))
 b : Below W.heap.size W w
theorem FcI.sz {ub : List Value} {ms : List Mk} {k : Nat} {L : List Ft} {v : Value} (h : FcI W ub ms k L v w) : W.heap.size + 1 + 1 ≤ w.heap.size := by
 obtain ⟨m, hm, _⟩ := h.map
 exact hm.lt
theorem FcI.below {ub : List Value} {ms : List Mk} {k : Nat} {L : List Ft} {v : Value} (h : FcI W ub ms k L v w) (hb : Below w.heap.size w w') : FcI W ub ms k L v w' := by
 obtain ⟨m, hm, hs⟩ := h.map
 have := h.sz
 exact ⟨own_below h.own hb, ⟨m, hm.below hb (by omega), hs⟩, (hb.block _ (by omega)).trans h.box, h.b.trans (hb.mono h.b.size)⟩
theorem FcI.app {ub : List Value} {ms : List Mk} {k : Nat} {L : List Ft} {v v' : Value} {x : Ft} (h : FcI W ub ms k L v w) (o : Obj) (ho : w'.ownsRow (W.heap.size + 1 + 1) 42 3 v' (L.length + 1) (L.flatMap Ft.cells ++ x.cells)) (hg : (w.alloc o).grownBy w' v.ownBlock) : FcI W ub ms k (L ++ [x]) v' w' := by
 have hA := h.below (alloc_below w o)
 obtain ⟨m, hm, hs⟩ := hA.map
 have hz := h.sz
 have hz2 := hA.sz
 have hne : ∀ g, v.ownBlock = some g → W.heap.size + 1 + 1 ≤ g := fun g e => own_ge hA.own g e
 refine ⟨?_, ⟨m, hm.kept hg (fun e => by have := hne _ e.symm; omega), hs⟩, (hg.block _ (by omega) (fun e => by have := hne _ e.symm; omega)).trans hA.box, hA.b.grown hg hA.b.size (fun g e => by have := hne _ e; omega)⟩
 show w'.ownsRow _ _ _ _ (L ++ [x]).length ((L ++ [x]).flatMap Ft.cells)
 rw [List.length_append, List.flatMap_append]
 simpa using ho
theorem FcI.set {ub : List Value} {ms : List Mk} {k : Nat} {L : List Ft} {v : Value} {m2 : List (ByteArray × Bool)} (h : FcI W ub ms k L v w) (hg : w.grownBy w' (some (W.heap.size + 1))) (hm : MapIs Value.string Value.bool w' (W.heap.size + 1) m2) (hs : SeenM m2 ms (k + 1)) : FcI W ub ms (k + 1) L v w' := by
 have hz := h.sz
 refine ⟨?_, ⟨m2, hm, hs⟩, (hg.block _ (by omega) (fun e => by simp at e)).trans h.box, h.b.grown hg h.b.size (fun g e => by cases e; omega)⟩
 refine h.own.kept hg ?_
 cases hv : v.ownBlock with
 | none => exact .inl rfl
 | some g => exact .inr (fun e => by injection e with e; have := own_ge h.own g hv; omega)
theorem zBool (w : World) : (zeroValue 4).run Try.prog w = .ok (.bool false) w := by kernel_rfl
structure FcT (W : World) (L : List Ft) (v : Value) (w : World) : Prop where
 own : w.ownsRow (W.heap.size + 1 + 1) 42 3 v L.length (L.flatMap Ft.cells)
 b : Below W.heap.size W w
 z : W.heap.size + 1 + 1 ≤ w.heap.size
set_option maxRecDepth 40000 in
set_option maxHeartbeats 4000000 in
theorem faults_any (pp mp gp : Option Addr) (pc mc gn gc : Nat) (ps : List PtR) (ms : List Mk) (W : World) (hps : Row W pp (ps.flatMap PtR.cells)) (hms : Row W mp (ms.flatMap Mk.cells)) (hpl : ps.length ≤ 10000000) (hml : ms.length ≤ 10000000)
  (hsort : ∀ (L : List Ft) (v : Value) (w : World), L.length ≤ 20000000 → FcT W L v w → Calls Try.prog 33 #[v, .func (.func 34) #[] #[]] w fun e w' => e = .returned (.tuple #[]) ∧ ∃ L' : List Ft, L'.Perm L ∧ L'.Pairwise leF ∧ FcT W L' v w') :
  Calls Try.prog 20 #[.agg #[.slice pp ps.length pc, .slice mp ms.length mc, .slice gp gn gc]] W (FaT W (longR ps (dupsR ms ms.length) (ps.length - 64))) := by
 obtain ⟨NP, hNP⟩ : ∃ NP, NP = ps.length := ⟨_, rfl⟩
 obtain ⟨NM, hNM⟩ : ∃ NM, NM = ms.length := ⟨_, rfl⟩
 have HNP := hid hNP
 have HNM := hid hNM
 have HPS := hid hps
 have HMS := hid hms
 have HSO := hid hsort
 rw [← hNP] at hpl
 rw [← hNM] at hml
 rw [← hNP, ← hNM]
 obtain ⟨W1, hW1⟩ : ∃ W1, W1 = W.alloc (.cells #[.slice pp NP pc, .slice mp NM mc, .slice gp gn gc] 32) := ⟨_, rfl⟩
 obtain ⟨ub, hub⟩ : ∃ ub, ub = [Value.slice pp NP pc, .slice mp NM mc, .slice gp gn gc] := ⟨_, rfl⟩
 have h1 : FcI W ub ms 0 [] (.slice none 0 0) (W1.alloc (.map #[] 0)) := by
  have hb1 : Below W.heap.size W W1 := by rw [hW1]; exact alloc_below _ _
  have hz1 : W1.heap.size = W.heap.size + 1 := by rw [hW1, World.size_alloc]
  refine ⟨World.ownsRow_nil _ _ _ _, ⟨[], ?_, SeenM.nil _⟩, ?_, hb1.alloc (by omega) _⟩
  ·have := MapIs.made Value.string Value.bool W1
   rwa [hz1] at this
  ·refine (Below.heap_alloc _ _ _ (by omega)).trans ?_
   rw [hW1, hub]; exact heap_alloc_new _ _
 have HZ1 : Hid (W1.heap.size = W.heap.size + 1) := by show _ = _; rw [hW1, World.size_alloc]
 have HW1 := hid hW1
 have H1 := hid h1
 have HBX : Hid (∀ w : World, w.heap[W.heap.size]? = some (.cells ub.toArray 32 (0, 0)) → w.cell? ⟨W.heap.size, 0, none⟩ = some (.slice pp NP pc) ∧ w.cell? ⟨W.heap.size, 1, none⟩ = some (.slice mp NM mc)) := fun w h => by
  rw [hub] at h
  exact ⟨cell_of_row _ _ 0 _ _ _ h, cell_of_row _ _ 1 _ _ _ h⟩
 have hb0 := HBX.out _ h1.box
 clear hNP hNM hps hms hsort hW1 hub h1
 obtain ⟨b0, b1⟩ := hb0
 have hmm := @run_makeMap Try.prog
 go_enter Try.func20, Try.ntmps20
 go_upto_region 1 with (fail)
 rw [← HW1.out]
 go_upto_region 3 with (fail)
 rw [HZ1.out]
 obtain ⟨W2, hW2⟩ : ∃ W2, W2 = W1.alloc (.map #[] 0) := ⟨_, rfl⟩
 have HW2 := hid hW2
 rw [← hW2] at b0 b1
 have H2 : Hid (FcI W ub ms 0 [] (.slice none 0 0) W2) := by rw [hW2]; exact H1.out
 rw [← hW2]
 clear hW2
 go_wp2_with (fail)
 go_loopw [3, 13] (fun v i wr => ∃ (k : Nat), k ≤ NM ∧ i = .int .i64 k ∧ FcI W ub ms k (dupsP ms k) v wr) (fun _ i _ => NM - (intOf i).toNat)
 case atStart => exact ⟨0, Nat.zero_le _, rfl, H2.out⟩
 case round =>
  clear b0 b1
  rename World => wr
  obtain ⟨k, hk, rfl, hi⟩ := hrel
  have hLl := dupsP_len ms k
  obtain ⟨L, hL⟩ : ∃ L, L = dupsP ms k := ⟨_, rfl⟩
  have HL := hid hL
  rw [← hL] at hLl hi
  obtain ⟨lp, lc, rfl, -⟩ := own_shape hi.own
  have HI := hid hi
  have hsz := hi.sz
  obtain ⟨c0, c1⟩ := HBX.out _ hi.box
  by_cases hlt : k < NM
  ·have hkI : (k : Int) < NM := by omega
   have hkl : k < ms.length := by rw [← HNM.out]; exact hlt
   have hmr := HMS.out.below hi.b
   obtain ⟨kb, ko, rfl, hkb, -⟩ := hmr.at (by rw [flat_len Mk.cells 9 (fun _ => rfl)]; omega)
   obtain ⟨x0, x1, x2, x3, x4, x5, x6, x7, x8⟩ := mk_cells hmr k hkl
   have HX : Hid (ms[k]? = some ms[k]) := List.getElem?_eq_getElem hkl
   have HPUT : Hid (∀ m, SeenM m ms k → SeenM (aset m ms[k].name true) ms (k + 1)) := fun m h => h.put hkl
   generalize ms[k] = x at *
   obtain ⟨W9, hW9⟩ : ∃ W9, W9 = wr.alloc (.cells #[.string x.name, .int .i64 x.file, .int .i64 x.line, .int .i64 x.part, .int .i64 x.piece, .bool x.equ, .int .i64 x.v.add, .string x.v.plus, .string x.v.minus] 81) := ⟨_, rfl⟩
   have HW9 := hid hW9
   have hb9 : Below wr.heap.size wr W9 := by rw [hW9]; exact alloc_below _ _
   have hx9 : BxM wr.heap.size x W9 := by unfold BxM; rw [hW9]; exact heap_alloc_new _ _
   have HX9 := hid hx9
   have HI9 := hid (HI.out.below hb9)
   have hlen9 : wr.heap.size < W9.heap.size := by rw [hW9]; simp
   obtain ⟨z0, z1, z2, -⟩ := boxm_cells hx9
   obtain ⟨m, hmap, hseen⟩ := HI9.out.map
   have HM := hid hmap
   have hlk := hseen x.name
   have HSN := hid hseen
   obtain ⟨B, hB⟩ : ∃ B, B = (ms.take k).any (fun y => decide (y.name = x.name)) := ⟨_, rfl⟩
   have HB := hid hB
   rw [← hB] at hlk
   have HLK := hid hlk
   have HLR := hid hLl
   clear hi hmr hb9 hW9 hL hx9 hmap hseen hlk hB
   go_upto_region 6 with (fail)
   rw [← HW9.out]
   clear x0 x1 x2 x3 x4 x5 x6 x7 x8 c0 c1
   have hLk : L.length ≤ 10000000 := by omega
   cases B with
   | false =>
    have HD : Hid (dupsP ms (k + 1) = L) := by
     unfold Hid dupsP
     rw [HX.out]
     dsimp only
     rw [if_neg, ← HL.out]
     rw [← HB.out]; exact Bool.false_ne_true
    go_wp2_with (first
     | ((with_reducible show wpList _ _ _ (⟨some 20, _, _, _, _, _⟩ :: _) _ _); go_loud (refine wpList_maplook KStr Try.underlying102 rfl _ _ false rfl (.bool false) (zBool _) _ m rfl HM.out x.name rfl ?_); simp only [HLK.out, Bool.false_eq_true, if_false, Option.map_none, Option.getD_none])
     | ((with_reducible show wpList _ _ _ (⟨none, .mapUpdate _ _ _ _, _, _, _, _⟩ :: _) _ _); go_loud (refine wpList_mapset KStr Try.underlying102 rfl _ _ _ (.inl rfl) _ m rfl HM.out x.name rfl true rfl ?_); go_loud (intro w2 hm2 hg2; have HF := hid (HI9.out.set hg2 hm2 (HPUT.out m HSN.out)); clear hm2 hg2)))
    exact ⟨⟨k + 1, by omega, by go_num, by rw [HD.out]; exact HF.out⟩, by simp [intOf]; omega⟩
   | true =>
    have HD : Hid (dupsP ms (k + 1) = L ++ [⟨x.file, x.line, 5⟩]) := by
     unfold Hid dupsP
     rw [HX.out]
     dsimp only
     rw [if_pos HB.out.symm, ← HL.out]
    have hap : ∀ (o : Obj) (v' : Value) (w' : World), w'.ownsRow (W.heap.size + 1 + 1) 42 3 v' (L.length + 1) (L.flatMap Ft.cells ++ (⟨x.file, x.line, 5⟩ : Ft).cells) → (W9.alloc o).grownBy w' (Value.slice lp L.length lc).ownBlock → w'.cell? ⟨wr.heap.size, 0, none⟩ = some (.string x.name) := fun o v' w' ho hg => by
     have hne : ∀ g, (Value.slice lp L.length lc).ownBlock = some g → g < wr.heap.size := fun g e => HI.out.own.lt g e |>.2
     have hq := (hg.block wr.heap.size (by simp; omega) (fun e => by have := hne _ e.symm; omega)).trans ((Below.heap_alloc W9 o wr.heap.size hlen9).trans HX9.out)
     exact (boxm_cells hq).1
    have HAP := hid hap
    clear hap
    go_wp2_with (first
     | ((with_reducible show wpList _ _ _ (⟨some 20, _, _, _, _, _⟩ :: _) _ _); go_loud (refine wpList_maplook KStr Try.underlying102 rfl _ _ false rfl (.bool false) (zBool _) _ m rfl HM.out x.name rfl ?_); simp only [HLK.out, Bool.false_eq_true, if_true, if_false, Option.map_some, Option.getD_some])
     | ((with_reducible show wpList _ _ _ (⟨some 28, _, _, _, _, _⟩ :: _) _ _); go_loud (refine wpList_app EFault rfl _ _ rfl (W.heap.size + 1 + 1) (.slice lp L.length lc) L.length (L.flatMap Ft.cells) rfl (own_below HI9.out.own (alloc_below _ _)) _ 1 1 (Ft.cells ⟨x.file, x.line, 5⟩) rfl rfl (by intro h; cases h) (row_blkAt (heap_alloc_new _ _)) (ft_ones _) (by unfold maxLen; omega) (by omega) (by simp; omega) ?_); go_loud (intro v8 w8 ho8 hg8 hs8; obtain ⟨vp8, vc8, rfl, -⟩ := own_shape ho8; have z0' := HAP.out _ _ _ ho8 hg8; have HI8 := hid (HI9.out.app (x := ⟨x.file, x.line, 5⟩) _ ho8 hg8); clear z0; have z0 := z0'; clear z0'; obtain ⟨m8, hm8, hsn8⟩ := HI8.out.map; have HM8 := hid hm8; have HSN8 := hid hsn8; clear ho8 hg8 hs8 hm8 hsn8))
     | ((with_reducible show wpList _ _ _ (⟨none, .mapUpdate _ _ _ _, _, _, _, _⟩ :: _) _ _); go_loud (refine wpList_mapset KStr Try.underlying102 rfl _ _ _ (.inl rfl) _ m8 rfl HM8.out x.name rfl true rfl ?_); go_loud (intro w2 hm2 hg2; have HF := hid (HI8.out.set hg2 hm2 (HPUT.out m8 HSN8.out)); clear hm2 hg2)))
    exact ⟨⟨k + 1, by omega, by go_num, by rw [HD.out]; exact HF.out⟩, by simp [intOf]; omega⟩
  ·have hke : k = NM := by omega
   subst hke
   have HLN : Hid (dupsP ms ms.length = L) := by rw [HNM.out] at HL; exact HL.out.symm
   have hLk : L.length ≤ 10000000 := by omega
   clear hi hL hLl
   go_wp2_with fail
   go_loopw [3, 36] (fun v i wy => ∃ (t : Nat), t ≤ NP ∧ i = .int .i64 t ∧ FcI W ub ms k (longP ps L (t - 64)) v wy) (fun _ i _ => 10000064 - (intOf i).toNat)
   case atStart => exact ⟨0, Nat.zero_le _, rfl, HI.out⟩
   case round =>
    rename World => wy
    obtain ⟨t, ht, rfl, hi⟩ := hrel
    have hNl := longP_len ps L (t - 64)
    obtain ⟨N, hN⟩ : ∃ N, N = longP ps L (t - 64) := ⟨_, rfl⟩
    have HNN := hid hN
    rw [← hN] at hNl hi
    obtain ⟨np, nc, rfl, -⟩ := own_shape hi.own
    have HIN := hid hi
    have hsz := hi.sz
    by_cases hlt : t < NP
    ·have htI : (t : Int) < NP := by omega
     have htl : t < ps.length := by rw [← HNP.out]; exact hlt
     have hpr := HPS.out.below hi.b
     obtain ⟨pb, po, rfl, hpb, -⟩ := hpr.at (by rw [flat_len PtR.cells 4 (fun _ => rfl)]; omega)
     obtain ⟨y0, y1, y2, y3⟩ := pt_ex hpr t htl
     have HY : Hid (64 ≤ t → longP ps L (t - 64 + 1) = N ++ [⟨ps[t].file, ps[t].line, 3⟩]) := fun h => by
      unfold longP
      rw [show 64 + (t - 64) = t by omega, List.getElem?_eq_getElem htl, ← hN]
     generalize ps[t] = y at *
     generalize y.pieces.p = yp at y3
     generalize y.pieces.l.length = yn at y3
     generalize y.pieces.c = yc at y3
     obtain ⟨W9, hW9⟩ : ∃ W9, W9 = wy.alloc (.cells #[.string y.name, .int .i64 y.file, .int .i64 y.line, .slice yp yn yc] 50) := ⟨_, rfl⟩
     have HW9 := hid hW9
     have hb9 : Below wy.heap.size wy W9 := by rw [hW9]; exact alloc_below _ _
     have HI9 := hid (HIN.out.below hb9)
     have hx9 : W9.heap[wy.heap.size]? = some (.cells #[.string y.name, .int .i64 y.file, .int .i64 y.line, .slice yp yn yc] 50 (0, 0)) := by rw [hW9]; exact heap_alloc_new _ _
     have z1 := cell_of_row _ _ 1 _ _ _ hx9
     have z2 := cell_of_row _ _ 2 _ _ _ hx9
     simp only [List.getElem?_toArray, List.getElem?_cons_zero, List.getElem?_cons_succ] at z1 z2
     have hlen9 : wy.heap.size < W9.heap.size := by rw [hW9]; simp
     clear hi hpr hb9 hN hW9 hx9
     go_upto_region 13 with (fail)
     rw [← HW9.out]
     clear y0 y1 y2 y3
     have hNk : N.length ≤ 20000000 := by omega
     by_cases h64 : 64 ≤ t
     ·have h64z : (64 : Int) ≤ (t : Int) := by omega
      have HY2 := hid (HY.out h64)
      go_wp2_with ((with_reducible show wpList _ _ _ (⟨some 50, _, _, _, _, _⟩ :: _) _ _); go_loud (refine wpList_app EFault rfl _ _ rfl (W.heap.size + 1 + 1) (.slice np N.length nc) N.length (N.flatMap Ft.cells) rfl (own_below HI9.out.own (alloc_below _ _)) _ 1 1 (Ft.cells ⟨y.file, y.line, 3⟩) rfl rfl (by intro h; cases h) (row_blkAt (heap_alloc_new _ _)) (ft_ones _) (by unfold maxLen; omega) (by omega) (by simp; omega) ?_); go_loud (intro v8 w8 ho8 hg8 hs8; obtain ⟨vp8, vc8, rfl, -⟩ := own_shape ho8; have HI8 := hid (HI9.out.app (x := ⟨y.file, y.line, 3⟩) _ ho8 hg8); clear ho8 hg8 hs8))
      exact ⟨⟨t + 1, by omega, by go_num, by rw [show t + 1 - 64 = t - 64 + 1 by omega, HY2.out]; exact HI8.out⟩, by simp [intOf]; omega⟩
     ·have h64z : ¬ (64 : Int) ≤ (t : Int) := by omega
      have HE : Hid (longP ps L (t + 1 - 64) = N) := by
       show _ = _
       rw [show t + 1 - 64 = 0 by omega, HNN.out, show t - 64 = 0 by omega]
      go_wp2_with fail
      exact ⟨⟨t + 1, by omega, by go_num, by rw [HE.out]; exact HI9.out⟩, by simp [intOf]; omega⟩
    ·have hte : t = NP := by omega
     subst hte
     have HS := hid (HSO.out N (.slice np N.length nc) wy (by omega) ⟨HIN.out.own, HIN.out.b, hsz⟩)
     clear hi hN
     go_wp2_with fail
     go_at_call 33
     (with_reducible refine HS.out.mono ?_)
     rintro _ w5 ⟨rfl, L', hp, hsrt, h5⟩
     have HF : Hid (FaT W (longR ps (dupsR ms ms.length) (ps.length - 64)) (.returned (.slice np N.length nc)) w5) := by
      obtain ⟨p9, c9, e9, h9⟩ := own_shape h5.own
      have hpl := hp.length_eq
      rw [HNN.out, ← HLN.out, HNP.out] at hp
      have e := faults_one ms ps hp hsrt
      rw [← e]
      rw [hpl] at e9
      cases e9
      exact ⟨⟨_, _, by rw [hpl], h9⟩, h5.b⟩
     have HF2 : Hid (FaT W (longR ps (dupsR ms k) (t - 64)) (.returned (.slice np N.length nc)) w5) := by
      have := HF.out
      rwa [← HNM.out, ← HNP.out] at this
     clear hp hsrt h5
     go_wp2_with fail
     go_ret
     exact HF2.out
end Go.Proofs.Ythlingholhjcnaa
namespace Go.Proofs.Ythlingholhjcnaa
open Go.RowKit Go.Lib Go.Sort
theorem own_putRow {β : Type} [Inhabited β] (enc : β → Value) {w : World} {base g n c size : Nat} {e : TypeId} {xs : List Value} (h : w.ownsRow base e size (.slice (some ⟨g, 0, none⟩) n c) n xs) (d : Array β) (hd : d.size = n * size) (m : Nat) (os : Array Obj) :
  (grow (putRow enc (Sort.ahead w m) g 0 d) os).ownsRow base e size (.slice (some ⟨g, 0, none⟩) n c) n (d.toList.map enc) ∧ w.grownBy (grow (putRow enc (Sort.ahead w m) g 0 d) os) (some g) := by
 rcases h.2 with ⟨h0, _⟩ | ⟨g', cap', cur, hv, hge, hh, hn, hcap, hsz, htake⟩
 ·cases h0
 ·cases hv
  have hlt : g < w.heap.size := (Array.getElem?_eq_some_iff.1 hh).1
  have hhb : ∀ k, k < w.heap.size → (grow (putRow enc (Sort.ahead w m) g 0 d) os).heap[k]? = (putRow enc (Sort.ahead w m) g 0 d).heap[k]? := fun k hk => by
   show ((putRow enc (Sort.ahead w m) g 0 d).heap ++ os)[k]? = _
   rw [Array.getElem?_append_left]
   show k < (w.heap.modify g _).size
   simpa using hk
  have hg : (grow (putRow enc (Sort.ahead w m) g 0 d) os).heap[g]? = some (.cells (putCells enc 0 d cur) e (0, 0)) := by
   rw [hhb g hlt]
   show (w.heap.modify g (onCells (putCells enc 0 d)))[g]? = _
   rw [Array.getElem?_modify, if_pos rfl, hh]; rfl
  have hlen : n * size ≤ cur.size := by rw [hsz]; exact Nat.mul_le_mul_right _ hn
  refine ⟨⟨by simpa using hd, .inr ⟨g, c, putCells enc 0 d cur, rfl, hge, hg, hn, hcap, by unfold putCells; simpa using hsz, ?_⟩⟩, ?_⟩
  ·refine List.ext_getElem (by simp [putCells, hd]; omega) fun i h1 h2 => ?_
   have hi : i < d.size := by simpa using h2
   have : i < cur.size := by omega
   simp only [List.getElem_take, Array.getElem_toList, List.getElem_map]
   unfold putCells
   rw [Array.getElem_mapIdx, if_pos ⟨Nat.zero_le _, by omega⟩, Nat.sub_zero, getElem!_pos d i hi]
  ·refine ⟨rfl, rfl, rfl, ?_, fun k hk hne => ?_⟩
   ·show _ ≤ ((w.heap.modify g _) ++ os).size
    simp
   ·rw [hhb k hk]
    show (w.heap.modify g _)[k]? = _
    rw [Array.getElem?_modify, if_neg (fun e => hne (by rw [e]))]
theorem own_holds {β : Type} [Inhabited β] (enc : β → Value) {w : World} {base g n c size : Nat} {e : TypeId} {xs : List Value} (h : w.ownsRow base e size (.slice (some ⟨g, 0, none⟩) n c) n xs) (d : Array β) (hd : d.toList.map enc = xs) : Holds enc w g 0 d := fun j hj => by
 have hl : j < xs.length := by rw [← hd]; simpa using hj
 obtain ⟨h1, h2⟩ := own_cell h j hl
 have e : xs[j] = enc d[j]! := by
  subst hd
  simp [getElem!_pos d j hj]
 rw [Nat.zero_add]
 exact ⟨by rw [h1, e], h2⟩
theorem flatK_list {α : Type} [Inhabited α] (enc : α → List Value) (k : Nat) (hk : ∀ x, (enc x).length = k) (d : Array α) : (flatK enc k d).toList = d.toList.flatMap enc := by
 have hl : (d.toList.flatMap enc).length = k * d.size := by have := flat_len enc k hk d.toList; simpa using this
 refine List.ext_getElem (by rw [hl]; simp [Nat.mul_comm]) fun i h1 h2 => ?_
 have hi : i < d.size * k := by simpa using h1
 have hk0 : 0 < k := Nat.pos_of_ne_zero (fun e => by subst e; simp at hi)
 have hq : i / k < d.size := Nat.div_lt_of_lt_mul (by rw [Nat.mul_comm]; exact hi)
 have hr : i % k < k := Nat.mod_lt _ hk0
 have e := flat_get enc k hk d.toList (i / k) (by simpa using hq) (i % k) hr
 rw [Nat.div_add_mod, List.getElem?_eq_getElem h2] at e
 have e2 := get_flatK enc k d i hi
 rw [Array.getElem_toList]
 rw [getElem!_pos _ i (by simpa using hi)] at e2
 rw [e2, getElem!_pos d _ hq, getElem!_pos _ (i % k) (by rw [hk]; exact hr)]
 rw [Array.getElem_toList, List.getElem?_eq_getElem (by rw [hk]; exact hr)] at e
 injection e with e
 exact e.symm
theorem Stlays : Go.Proofs.SlLaysF0.n20 Try.prog Stren := {
 mixed := by kernel_rfl
 f20 := ⟨Try.f59.name, by decide, Try.func59.trans (congrArg some (by kernel_rfl))⟩
 t0 := Try.underlying0
 a0 := Try.isAgg0
 z0 := Try.sizeOf0
 v0 := Try.zeroValue0
 t3 := Try.underlying3
 a3 := Try.isAgg3
 z3 := Try.sizeOf3
 v3 := Try.zeroValue3
 t4 := Try.underlying4
 a4 := Try.isAgg4
 z4 := Try.sizeOf4
 v4 := Try.zeroValue4
 t22 := Try.underlying33
 a22 := Try.isAgg33
 z22 := Try.sizeOf33
 v22 := Try.zeroValue33
 t25 := Try.underlying104
 a25 := Try.isAgg104
 z25 := Try.sizeOf104
 v25 := Try.zeroValue104 }
theorem Sttypes {k : Nat} (aE : ∀ w, (isAgg 42).run Try.prog w = .ok true w) (zE : ∀ w, (Go.sizeOf 42).run Try.prog w = .ok k w) : StT Try.prog k := {
 mixed := by kernel_rfl
 t0 := Try.underlying0
 a0 := Try.isAgg0
 z0 := Try.sizeOf0
 v0 := Try.zeroValue0
 t3 := Try.underlying3
 a3 := Try.isAgg3
 z3 := Try.sizeOf3
 v3 := Try.zeroValue3
 t4 := Try.underlying4
 a4 := Try.isAgg4
 z4 := Try.sizeOf4
 v4 := Try.zeroValue4
 t22 := Try.underlying33
 a22 := Try.isAgg33
 z22 := Try.sizeOf33
 v22 := Try.zeroValue33
 t25 := Try.underlying104
 a25 := Try.isAgg104
 z25 := Try.sizeOf104
 v25 := Try.zeroValue104
 t39 := Try.underlying135
 a39 := Try.isAgg135
 z39 := Try.sizeOf135
 v39 := Try.zeroValue135
 aE := aE
 zE := zE }
theorem own_empty {w : World} {base : Nat} {e : TypeId} {size : Nat} {v : Value} {xs : List Value} (h : w.ownsRow base e size v 0 xs) : ∃ p c, v = .slice p 0 c := by
 rcases h.2 with ⟨rfl, _⟩ | ⟨g, c, cur, rfl, _⟩
 ·exact ⟨_, _, rfl⟩
 ·exact ⟨_, _, rfl⟩
theorem stable_none (p : Option Addr) (cap : Nat) (fv : Value) (w : World) : Calls Try.prog 52 #[.slice p 0 cap, .int .i64 0, fv] w fun e w' => e = .returned (.tuple #[]) ∧ w' = w := by
 have hcon := AnyF.insertionSortCmpFunc_none (P := Try.prog) (ρ := Stren) Stlays p cap fv w
 have HC : Hid (Calls Try.prog 59 #[.slice p 0 cap, .int .i64 0, .int .i64 0, fv] w fun e w' => e = .returned (.tuple #[]) ∧ w' = w) := hcon
 clear hcon
 go_enter Try.func52, Try.ntmps52
 go_wp2_with fail
 go_loopw [7, 8] (fun u v wr => u = .int .i64 0 ∧ v = .int .i64 20 ∧ wr = w) (fun _ _ _ => 0)
 case atStart => exact ⟨rfl, rfl, rfl⟩
 case round =>
  obtain ⟨rfl, rfl, rfl⟩ := hrel
  go_wp2_with (go_at_call 59; go_loud ((with_reducible refine HC.out.mono ?_); rintro e w2 ⟨rfl, hw2⟩; rw [hw2]; clear hw2))
  go_loopw [6] (fun v wr2 => v = .int .i64 20 ∧ wr2 = wr) (fun _ _ => 0)
  case atStart => exact ⟨rfl, rfl⟩
  case round =>
   obtain ⟨rfl, rfl⟩ := hrel
   go_wp2_with fail
   go_end0
   exact ⟨rfl, rfl⟩
theorem sortStable_none (p : Option Addr) (cap : Nat) (fv : Value) (w : World) : Calls Try.prog 33 #[.slice p 0 cap, fv] w fun e w' => e = .returned (.tuple #[]) ∧ w' = w := by
 have HC := hid (stable_none p cap fv w)
 go_enter Try.func33, Try.ntmps33
 go_wp2_with (go_at_call 52; go_loud ((with_reducible refine HC.out.mono ?_); rintro e w2 ⟨rfl, hw2⟩; rw [hw2]; clear hw2))
 go_end0
 exact ⟨rfl, rfl⟩
def StableOf {β : Type} (lt : β → β → Bool) (l l' : List β) : Prop := ∃ z : List (β × Nat), z.Perm l.zipIdx ∧ Srt (lexR (fun a b => lt a.1 b.1) Prod.snd) z ∧ l' = z.map Prod.fst
theorem StableOf.perm {β : Type} {lt : β → β → Bool} {l l' : List β} (h : StableOf lt l l') : l'.Perm l := by
 obtain ⟨z, h1, _, rfl⟩ := h
 refine (h1.map Prod.fst).trans ?_
 rw [List.zipIdx_map_fst]
theorem StableOf.sorted {β : Type} {lt : β → β → Bool} {l l' : List β} (h : StableOf lt l l') : l'.Pairwise fun a b => lt b a = false := by
 obtain ⟨z, _, h2, rfl⟩ := h
 rw [List.pairwise_map]
 refine h2.imp fun {a b} hab => ?_
 unfold lexR at hab
 rw [Bool.or_eq_false_iff] at hab
 exact hab.1
set_option maxHeartbeats 1000000 in
theorem sortStable_own {β : Type} [Inhabited β] {k : Nat} (aE : ∀ w, (isAgg 42).run Try.prog w = .ok true w) (zE : ∀ w, (Go.sizeOf 42).run Try.prog w = .ok k w) (enc : β → List Value) (hk : ∀ x, (enc x).length = k) (h1 : ∀ x, ∀ v ∈ enc x, v.oneCell' = true) (cf : β → β → Int) (hO : SWO (ltOf cf)) (g : Nat) (cb : Array Value)
  (eg : ∀ args w, (callFunc g args).run Try.prog w = .ok (.enter g args) w) {base : Nat} {v : Value} {l : List β} {w : World} (h : w.ownsRow base 42 k v l.length (l.flatMap enc)) (hlen : l.length ≤ 1000000000)
  (hcmp : ∀ w', w.grownBy w' v.ownBlock → ∀ x y : β, Calls Try.prog g (#[.agg (enc x).toArray, .agg (enc y).toArray] ++ cb) w' fun e w'' => e = .returned (.int .i64 (cf x y)) ∧ ∃ q os', w'' = grow (w'.drewN q) os') :
  Calls Try.prog 33 #[v, .func (.func g) #[] cb] w fun e w' => e = .returned (.tuple #[]) ∧
   ∃ l' : List β, StableOf (ltOf cf) l l' ∧ w'.ownsRow base 42 k v l.length (l'.flatMap enc) ∧ w.grownBy w' v.ownBlock := by
 by_cases h0 : l.length = 0
 ·rw [h0] at h
  obtain ⟨p, c, rfl⟩ := own_empty h
  refine (sortStable_none p c _ w).mono ?_
  rintro e w' ⟨rfl, rfl⟩
  have : l = [] := List.eq_nil_of_length_eq_zero h0
  subst this
  exact ⟨rfl, [], ⟨[], List.Perm.refl _, List.Pairwise.nil, rfl⟩, h, ⟨rfl, rfl, rfl, Nat.le_refl _, fun _ _ _ => rfl⟩⟩
 ·obtain ⟨b, c, rfl, hge, hlt, hnc, hcm⟩ := own_block h (by omega)
  have hsz : l.zipIdx.toArray.size = l.length := by simp
  have hfl : ∀ z : List (β × Nat), z.flatMap (fun x => enc x.1) = (z.map Prod.fst).flatMap enc := fun z => by rw [List.flatMap_map]
  have hk' : ∀ x : β × Nat, (enc x.1).length = k := fun x => hk x.1
  have hH : HoldsK (fun x : β × Nat => enc x.1) k w b 0 l.zipIdx.toArray := own_holds id h (flatK (fun x : β × Nat => enc x.1) k l.zipIdx.toArray) (by rw [List.map_id, flatK_list (fun x : β × Nat => enc x.1) k hk', hfl]; simp [List.zipIdx_map_fst])
  have hO' : SWO (ltOf fun x y : β × Nat => cf x.1 y.1) := ⟨fun x => hO.irrefl x.1, fun x y z => hO.trans x.1 y.1 z.1, fun x y z => hO.ntrans x.1 y.1 z.1⟩
  have hcon := sortStable_any (P := Try.prog) (k := k) (Sttypes aE zE) Try.func65 Try.func64 Try.func60 Try.func52 Try.func33 Stlays (enters_of Try.func59 (by kernel_rfl) rfl)
   (fun x : β × Nat => enc x.1) (fun x y : β × Nat => cf x.1 y.1) hO' Prod.snd g cb b 0 c l.zipIdx.toArray w eg (fun m os dk hdk x y => by
    obtain ⟨_, o2⟩ := own_putRow id h (flatK (fun x : β × Nat => enc x.1) k dk) (by rw [size_flatK, hdk, hsz]) m os
    exact hcmp _ o2 x.1 y.1) ⟨hk', fun x => h1 x.1, hH, hlt⟩ (by rw [hsz]; omega) (by
    show (l.zipIdx).Pairwise fun x y => x.2 < y.2
    have : (l.zipIdx.map Prod.snd).Pairwise (· < ·) := by rw [List.zipIdx_map_snd]; exact List.pairwise_lt_range'
    exact List.pairwise_map.1 this)
  rw [hsz] at hcon
  refine hcon.mono ?_
  rintro e w' ⟨rfl, d', hd', hp, hs, n, os, rfl⟩
  obtain ⟨o1, o2⟩ := own_putRow id h (flatK (fun x : β × Nat => enc x.1) k d') (by rw [size_flatK, hd']) n os
  rw [List.map_id, flatK_list (fun x : β × Nat => enc x.1) k hk', hfl] at o1
  exact ⟨rfl, d'.toList.map Prod.fst, ⟨d'.toList, hp, hs, rfl⟩, o1, o2⟩
end Go.Proofs.Ythlingholhjcnaa
namespace Go.Proofs.Ythlingholhjcnaa
open Go.RowKit Go.Lib
variable {W w w' : World}
instance : Inhabited Ft := ⟨⟨0, 0, 0⟩⟩
theorem lt_order : ltOf orderP = lessF := by
 funext f g
 exact order_less f g
theorem swo_less : Go.Sort.SWO lessF where
 irrefl x := by rw [lessF_false]; omega
 trans x y z h1 h2 := by rw [lessF_iff] at *; omega
 ntrans x y z h1 h2 := by rw [lessF_false] at *; omega
theorem sort_any (L : List Ft) (v : Value) (w : World) (hl : L.length ≤ 20000000) (h : FcT W L v w) : Calls Try.prog 33 #[v, .func (.func 34) #[] #[]] w fun e w' => e = .returned (.tuple #[]) ∧ ∃ L' : List Ft, L'.Perm L ∧ L'.Pairwise leF ∧ FcT W L' v w' := by
 refine (sortStable_own (β := Ft) (k := 3) Try.isAgg42 Try.sizeOf42 Ft.cells (fun _ => rfl) ft_ones orderP (by rw [lt_order]; exact swo_less) 34 #[] (enters_of Try.func34 (by kernel_rfl) rfl) h.own (by omega) (fun w' _ x y => order_any x y w')).mono ?_
 rintro e w' ⟨rfl, L', hst, ho, hg⟩
 rw [lt_order] at hst
 refine ⟨rfl, L', hst.perm, hst.sorted, by rw [hst.perm.length_eq]; exact ho, h.b.grown hg h.b.size (fun g e => by have := own_ge h.own g e; omega), Nat.le_trans h.z hg.size⟩
theorem cfaults_any (pp mp gp : Option Addr) (pc mc gn gc : Nat) (ps : List PtR) (ms : List Mk) (W : World) (hps : Row W pp (ps.flatMap PtR.cells)) (hms : Row W mp (ms.flatMap Mk.cells)) (hpl : ps.length ≤ 10000000) (hml : ms.length ≤ 10000000) :
  Calls Try.prog 20 #[.agg #[.slice pp ps.length pc, .slice mp ms.length mc, .slice gp gn gc]] W (FaT W (longR ps (dupsR ms ms.length) (ps.length - 64))) :=
 faults_any pp mp gp pc mc gn gc ps ms W hps hms hpl hml (fun L v w hl h => sort_any L v w hl h)
end Go.Proofs.Ythlingholhjcnaa
