/-
  Stable sorting at a row of structs: merging by halves, the first stretch the longer one.
-/
import Derived.Test.YteccpmmedpkddaaJN13
namespace Go.Proofs.Yteccpmmedpkddaa
open Go.Shelf Go.RowKit Go.Lib Go.Sort
variable {P : Program} {k : Nat} {α : Type} [Inhabited α]

/-- The contract of slices.symMergeCmpFunc for stretches of fewer than N elements. -/
def SymC (P : Program) (enc : α → List Value) (k : Nat) (cf : α → α → Int) (Rr : α → α → Bool) (g : Nat) (cb : Array Value) (blk off cap : Nat) (d0 : Array α) (w0 : World) (N : Nat) : Prop :=
  ∀ (d : Array α) (w : World) (pre A B post : List α), d0.size = d.size → SWK enc k w0 blk off d w → d.toList = pre ++ (A ++ (B ++ post)) → A.length + B.length < N → 0 < A.length → 0 < B.length → Srt Rr A → Srt Rr B → (∀ x ∈ A, ∀ y ∈ B, ltOf cf y x = Rr y x) →
  ∀ (n : Nat) (x y z : Int), n = d.size → x = (pre.length : Nat) → y = (pre.length + A.length : Nat) → z = (pre.length + A.length + B.length : Nat) →
    Calls P 78 #[.slice (some ⟨blk, off, none⟩) n cap, .int .i64 x, .int .i64 y, .int .i64 z, .func (.func g) #[] cb] w fun e w' =>
      e = .returned (.tuple #[]) ∧ ∃ (C : List α) (d' : Array α), d'.size = d.size ∧ C.Perm (A ++ B) ∧ Srt Rr C ∧ d'.toList = pre ++ (C ++ post) ∧ SWK enc k w0 blk off d' w'
/-- The runs cut at s and e. -/
structure SymK (Rr : α → α → Bool) (A B A1 A2 B1 B2 : List α) (a s m e b : Nat) : Prop where
  hA : A = A1 ++ A2
  hB : B = B1 ++ B2
  l1 : a + A1.length = s
  l2 : s + A2.length = m
  l3 : m + B1.length = e
  l4 : e + B2.length = b
  s1 : Srt Rr A1
  s2 : Srt Rr A2
  s3 : Srt Rr B1
  s4 : Srt Rr B2
  cr : ∀ x ∈ A1 ++ B1, ∀ y ∈ A2 ++ B2, Rr y x = false
theorem symK_of {d : Array α} {Rr : α → α → Bool} (hO : SWO Rr) {pre A B post : List α} {a m b s e : Nat} (hd : d.toList = pre ++ (A ++ (B ++ post))) (ha : a = pre.length) (hm : m = a + A.length) (hb : b = m + B.length) (hsA : Srt Rr A) (hsB : Srt Rr B)
    (h1 : a ≤ s) (h2 : s ≤ m) (h3 : m ≤ e) (h4 : e ≤ b) (k1 : s = a ∨ e = b ∨ Rr d[e]! d[s - 1]! = false) (k2 : s = m ∨ e = m ∨ Rr d[e - 1]! d[s]! = true) :
    ∃ A1 A2 B1 B2, SymK Rr A B A1 A2 B1 B2 a s m e b := by
  have gA : ∀ t, a ≤ t → t < m → d[t]! = A[t - a]! := fun t ht1 ht2 => by
    have := arr_at (d := d) (p := pre) (q := A ++ (B ++ post)) hd (t - a) (by simp; omega)
    rw [← ha, show a + (t - a) = t by omega] at this
    rw [this, getElem!_pos _ _ (by simp; omega), getElem!_pos _ _ (by omega), List.getElem_append_left (by omega)]
  have gB : ∀ t, m ≤ t → t < b → d[t]! = B[t - m]! := fun t ht1 ht2 => by
    have := arr_at (d := d) (p := pre ++ A) (q := B ++ post) (by rw [hd]; simp) (t - m) (by simp; omega)
    rw [List.length_append, ← ha, ← hm, show m + (t - m) = t by omega] at this
    rw [this, getElem!_pos _ _ (by simp; omega), getElem!_pos _ _ (by omega), List.getElem_append_left (by omega)]
  have eA : A = A.take (s - a) ++ A.drop (s - a) := (List.take_append_drop _ _).symm
  have eB : B = B.take (e - m) ++ B.drop (e - m) := (List.take_append_drop _ _).symm
  have oA := srt_app.1 (show Srt Rr (A.take (s - a) ++ A.drop (s - a)) by rw [← eA]; exact hsA)
  have oB := srt_app.1 (show Srt Rr (B.take (e - m) ++ B.drop (e - m)) by rw [← eB]; exact hsB)
  refine ⟨A.take (s - a), A.drop (s - a), B.take (e - m), B.drop (e - m), ⟨eA, eB, by simp; omega, by simp; omega, by simp; omega, by simp; omega, oA.1, oA.2.1, oB.1, oB.2.1, ?_⟩⟩
  refine merge_cut hO (by rw [← eA]; exact hsA) (by rw [← eB]; exact hsB) ?_ ?_
  · by_cases c1 : s = a
    · exact .inl (by rw [c1, Nat.sub_self]; rfl)
    by_cases c2 : e = b
    · exact .inr (.inl (List.drop_eq_nil_of_le (by omega)))
    rcases k1 with h | h | h
    · exact absurd h c1
    · exact absurd h c2
    · obtain ⟨t, ht⟩ : ∃ t, s - a = t + 1 := ⟨s - a - 1, by omega⟩
      refine .inr (.inr ⟨A.take t, A[t]!, B[e - m]!, B.drop (e - m + 1), by rw [ht]; exact take_at A t (by omega), cut_at B _ (by omega), ?_⟩)
      rw [gA (s - 1) (by omega) (by omega), gB e (by omega) (by omega)] at h
      rwa [show s - 1 - a = t by omega] at h
  · by_cases c1 : s = m
    · exact .inl (List.drop_eq_nil_of_le (by omega))
    by_cases c2 : e = m
    · exact .inr (.inl (by rw [c2, Nat.sub_self]; rfl))
    rcases k2 with h | h | h
    · exact absurd h c1
    · exact absurd h c2
    · obtain ⟨t, ht⟩ : ∃ t, e - m = t + 1 := ⟨e - m - 1, by omega⟩
      refine .inr (.inr ⟨A.drop (s - a + 1), A[s - a]!, B[t]!, B.take t, cut_at A _ (by omega), by rw [ht]; exact take_at B t (by omega), ?_⟩)
      rw [gA s (by omega) (by omega), gB (e - 1) (by omega) (by omega)] at h
      rw [show e - 1 - m = t by omega] at h
      exact swo_asymm hO h

set_option maxHeartbeats 16000000 in
set_option maxRecDepth 1000000 in
theorem symMerge_hi (T : StT P k) (F : P.funcs[82]? = some Try.f82) (F1 : P.funcs[81]? = some Try.f81) (F2 : P.funcs[78]? = some Try.f78) (enc : α → List Value) (cf : α → α → Int) (Rr : α → α → Bool) (hO : SWO Rr) (g : Nat) (cb : Array Value) (blk off cap : Nat) (d0 d : Array α) (w0 w : World)
    (eg : ∀ args w, (callFunc g args).run P w = .ok (.enter g args) w) (hcmp : CmpLays P g cb enc k cf blk off d0.size w0)
    (R : RowK enc k w0 blk off d0) (hs : d0.size = d.size) (S : SWK enc k w0 blk off d w) (hsz : d.size < 2305843009213693952) (N : Nat) (IH : SymC P enc k cf Rr g cb blk off cap d0 w0 N)
    (pre A B post : List α) (hd : d.toList = pre ++ (A ++ (B ++ post))) (hN : A.length + B.length ≤ N) (hA : 1 < A.length) (hB : 1 < B.length) (hsA : Srt Rr A) (hsB : Srt Rr B) (hx : ∀ x ∈ A, ∀ y ∈ B, ltOf cf y x = Rr y x)
    (n : Nat) (hn : n = d.size) {x y z : Int} (hx1 : x = (pre.length : Nat)) (hy : y = (pre.length + A.length : Nat)) (hz : z = (pre.length + A.length + B.length : Nat)) (hcase : (pre.length + (pre.length + A.length + B.length)) / 2 < pre.length + A.length) :
    Calls P 78 #[.slice (some ⟨blk, off, none⟩) n cap, .int .i64 x, .int .i64 y, .int .i64 z, .func (.func g) #[] cb] w fun e w' =>
      e = .returned (.tuple #[]) ∧ ∃ (C : List α) (d' : Array α), d'.size = d.size ∧ C.Perm (A ++ B) ∧ Srt Rr C ∧ d'.toList = pre ++ (C ++ post) ∧ SWK enc k w0 blk off d' w' := by
  have mixed := T.mixed; have t0 := T.t0; have a0 := T.a0; have z0 := T.z0; have v0 := T.v0; have t3 := T.t3; have a3 := T.a3; have z3 := T.z3; have v3 := T.v3; have t4 := T.t4; have a4 := T.a4; have z4 := T.z4; have v4 := T.v4; have t22 := T.t22; have a22 := T.a22; have z22 := T.z22; have v22 := T.v22; have t25 := T.t25; have a25 := T.a25; have z25 := T.z25; have v25 := T.v25
  have t39 := T.t39; have a39 := T.a39; have z39 := T.z39; have v39 := T.v39
  have aE := T.aE; have zE := T.zE
  have e64 : ∀ args w, (callFunc 81 args).run P w = .ok (.enter 81 args) w := enters_of F1 (by kernel_rfl) rfl
  have e60 : ∀ args w, (callFunc 78 args).run P w = .ok (.enter 78 args) w := enters_of F2 (by kernel_rfl) rfl
  have S0 : Aside (SWK enc k w0 blk off d w) := S
  have HC : Aside _ := hcmp
  have HIH : Aside _ := IH
  have hdl : d.size = pre.length + A.length + B.length + post.length := by
    have := congrArg List.length hd
    simp at this; omega
  have HD : Hid _ := hd
  have HO : Aside _ := And.intro hsA (And.intro hsB (And.intro hx hN))
  clear S hd hcmp hsA hsB hx IH hN
  obtain ⟨a, ha⟩ : ∃ a, a = pre.length := ⟨_, rfl⟩
  obtain ⟨m, hm⟩ : ∃ m, m = a + A.length := ⟨_, rfl⟩
  obtain ⟨b, hb⟩ : ∃ b, b = m + B.length := ⟨_, rfl⟩
  rw [← ha] at hx1 hy hz hdl hcase
  rw [← hm] at hy hz hdl hcase
  rw [← hb] at hz hdl hcase
  have hbd : b ≤ d.size := by omega
  have hb1 : ∀ t u, a ≤ t → t < m → m ≤ u → u < b → ltOf cf d[u]! d[t]! = Rr d[u]! d[t]! := fun t u ht1 ht2 hu1 hu2 => by
    have e1 : d[t]! = A[t - a]! := by
      have := arr_at (d := d) (p := pre) (q := A ++ (B ++ post)) HD.out (t - a) (by simp; omega)
      rw [← ha, show a + (t - a) = t by omega] at this
      rw [this, getElem!_pos _ _ (by simp; omega), getElem!_pos _ _ (by omega), List.getElem_append_left (by omega)]
    have e2 : d[u]! = B[u - m]! := by
      have := arr_at (d := d) (p := pre ++ A) (q := B ++ post) (by rw [HD.out]; simp) (u - m) (by simp; omega)
      rw [List.length_append, ← ha, ← hm, show m + (u - m) = u by omega] at this
      rw [this, getElem!_pos _ _ (by simp; omega), getElem!_pos _ _ (by omega), List.getElem_append_left (by omega)]
    rw [e1, e2]
    refine HO.out.2.2.1 _ ?_ _ ?_
    · rw [getElem!_pos _ _ (by omega)]; exact List.getElem_mem _
    · rw [getElem!_pos _ _ (by omega)]; exact List.getElem_mem _
  have HX : Aside _ := hb1
  have HAB : Aside _ := And.intro ha (And.intro hm hb)
  subst hx1 hy hz hn
  obtain ⟨mid, hmid⟩ : ∃ h, h = (a + b) / 2 := ⟨_, rfl⟩
  rw [← hmid] at hcase
  have hz : ((a : Int) + (b : Int)) / 2 = (mid : Int) := by omega
  have hmz1 : ((m : Int) - (a : Int) == 1) = false := beq_eq_false_iff_ne.2 (by omega)
  have hmz2 : ((b : Int) - (m : Int) == 1) = false := beq_eq_false_iff_ne.2 (by omega)
  have hmz3 : ¬ (m : Int) - (a : Int) = 1 := by omega
  have hmz4 : ¬ (b : Int) - (m : Int) = 1 := by omega
  have hma : a + 1 < m := by omega
  have hmb : m + 1 < b := by omega
  have hm1 : 2 * mid ≤ a + b := by omega
  have hm2 : a + b ≤ 2 * mid + 1 := by omega
  clear ha hm hdl hb1 hb hmid hA hB
  have hcz : (m : Int) > (mid : Int) := by omega
  go_enter F2, Try.ntmps78
  go_wp2
  go_loopg [20, 21] (b - a) (fun kx s10 s11 wr => ∃ (i j : Nat), s10 = .int .i64 i ∧ s11 = .int .i64 j ∧ (mid + m - b) ≤ i ∧ i ≤ j ∧ j ≤ mid ∧ j - i ≤ kx ∧
    Aside ((i = (mid + m - b) ∨ Rr d[mid + m - i]! d[i - 1]! = false) ∧ (j = mid ∨ Rr d[mid + m - 1 - j]! d[j]! = true)) ∧ Aside (SWK enc k w0 blk off d wr))
  case atStart => exact ⟨(mid + m - b), mid, by go_num, by go_num, by omega, by omega, by omega, by omega, ⟨.inl rfl, .inl rfl⟩, S0⟩
  case round =>
    clear S0
    obtain ⟨i, j, rfl, rfl, hmi, hij, hjb, hkx, HI, S1⟩ := hrel
    by_cases hlt : i < j
    · obtain ⟨h, hh⟩ : ∃ h, h = (i + j) / 2 := ⟨_, rfl⟩
      have hltz : (i : Int) < (j : Int) := by omega
      have hzz : ((i : Int) + (j : Int)) / 2 = (h : Int) := by omega
      have hih : i ≤ h := by omega
      have hhj : h < j := by omega
      clear hh
      obtain ⟨q, hq⟩ : ∃ q, q = mid + m - 1 - h := ⟨_, rfl⟩
      have ha1 : a ≤ h := by omega
      have hb1 : h < m := by omega
      have hq1 : m ≤ q := by omega
      have hq2 : q < b := by omega
      have ea112 : ((q : Int)).toNat = q := by omega
      have pa112 : (0 : Int) ≤ (q : Int) := by omega
      have ba112 : (q : Int) < (d.size : Int) := by omega
      have hqz : (mid : Int) + (m : Int) - 1 - (h : Int) = (q : Int) := by omega
      have ra112 : IntKind.i64.wrap ((mid : Int) + (m : Int) - 1 - (h : Int)) = (q : Int) := by rw [IntKind.wrap_i64]; omega
      have ra113 : IntKind.i64.wrap ((q : Int)) = (q : Int) := by rw [IntKind.wrap_i64]; omega
      have ec112 : ((h : Int)).toNat = h := by omega
      have pc112 : (0 : Int) ≤ (h : Int) := by omega
      have bc112 : (h : Int) < (d.size : Int) := by omega
      have rc112 : IntKind.i64.wrap ((h : Int)) = (h : Int) := by rw [IntKind.wrap_i64]; omega
      have HQ : Aside _ := hq
      clear hq
      obtain ⟨x112, hx112⟩ : ∃ x, x = d[q]! := ⟨_, rfl⟩
      obtain ⟨y112, hy112⟩ : ∃ x, x = d[h]! := ⟨_, rfl⟩
      have l112a := S1.out.ld R (by omega) P q (by omega)
      have l112b := S1.out.ld R (by omega) P h (by omega)
      rw [← hx112] at l112a
      rw [← hy112] at l112b
      have hc112 := S1.out.cmp HC.out (by omega) x112 y112
      have HX1 : Aside (ltOf cf x112 y112 = Rr x112 y112) := by show _ = _; rw [hx112, hy112]; exact HX.out h q ha1 hb1 hq1 hq2
      have HX2 : Aside (x112 = d[q]! ∧ y112 = d[h]!) := ⟨hx112, hy112⟩
      clear hx112 hy112
      cases hlv : ltOf cf x112 y112 with
      | false =>
        have hv112 : ¬ cf x112 y112 < 0 := of_decide_eq_false hlv
        have hd112 : decide (cf x112 y112 < 0) = false := decide_eq_false hv112
        have HL : Hid _ := hlv
        clear hlv
        go_wp2_with fail
        go_quiet_grown (first | (go_at_fn g; refine Calls.grown_of (hc112 _ _)))
        have S2 : Aside (SWK enc k w0 blk off d (grow (wr.drewN nq) osq)) := S1.out.grown nq osq
        clear l112a l112b hc112 S1
        generalize grow (wr.drewN nq) osq = wu2 at S2 ⊢
        clear nq osq
        go_wp2
        go_roundg (j - (h + 1))
        case measure => omega
        case rel => exact ⟨h + 1, j, by go_num, rfl, by omega, by omega, by omega, Nat.le_refl _, ⟨.inr (by rw [Nat.add_sub_cancel, show mid + m - (h + 1) = q by have := HQ.out; omega, ← HX2.out.1, ← HX2.out.2, ← HX1.out]; exact HL.out), HI.out.2⟩, S2⟩
      | true =>
        have hv112 : cf x112 y112 < 0 := of_decide_eq_true hlv
        have hd112 : decide (cf x112 y112 < 0) = true := decide_eq_true hv112
        have HL : Hid _ := hlv
        clear hlv
        go_wp2_with fail
        go_quiet_grown (first | (go_at_fn g; refine Calls.grown_of (hc112 _ _)))
        have S2 : Aside (SWK enc k w0 blk off d (grow (wr.drewN nq) osq)) := S1.out.grown nq osq
        clear l112a l112b hc112 S1
        generalize grow (wr.drewN nq) osq = wu2 at S2 ⊢
        clear nq osq
        go_wp2
        go_roundg (h - i)
        case measure => omega
        case rel => exact ⟨i, h, rfl, rfl, by omega, by omega, by omega, Nat.le_refl _, ⟨HI.out.1, .inr (by rw [← HQ.out, ← HX2.out.1, ← HX2.out.2, ← HX1.out]; exact HL.out)⟩, S2⟩
    · obtain rfl : i = j := by omega
      have hltz : ¬ (i : Int) < (i : Int) := by omega
      obtain ⟨e, he⟩ : ∃ e, e = mid + m - i := ⟨_, rfl⟩
      have hez : (mid : Int) + (m : Int) - (i : Int) = (e : Int) := by omega
      have h1 : a ≤ i := by omega
      have h2 : i ≤ m := by omega
      have h3 : m ≤ e := by omega
      have h4 : e ≤ b := by omega
      have h5 : mid + m ≤ e + i := by omega
      have h6 : e + i ≤ mid + m := by omega
      obtain ⟨A1, A2, B1, B2, KK⟩ := symK_of (s := i) (e := e) hO HD.out HAB.out.1 HAB.out.2.1 HAB.out.2.2 HO.out.1 HO.out.2.1 h1 h2 h3 h4
        (by rcases HI.out.1 with h | h; exact .inr (.inl (by omega)); exact .inr (.inr (by rw [he]; exact h))) (by rcases HI.out.2 with h | h; exact .inr (.inl (by omega)); exact .inr (.inr (by rw [show e - 1 = mid + m - 1 - i by omega]; exact h)))
      have hiz : ∀ x, x ∈ A1 → x ∈ A := fun x hx => by rw [KK.hA]; exact List.mem_append_left _ hx
      have hiz2 : ∀ x, x ∈ A2 → x ∈ A := fun x hx => by rw [KK.hA]; exact List.mem_append_right _ hx
      have hiz3 : ∀ x, x ∈ B1 → x ∈ B := fun x hx => by rw [KK.hB]; exact List.mem_append_left _ hx
      have hiz4 : ∀ x, x ∈ B2 → x ∈ B := fun x hx => by rw [KK.hB]; exact List.mem_append_right _ hx
      have hll := And.intro KK.l1 (And.intro KK.l2 (And.intro KK.l3 KK.l4))
      have HK : Aside _ := KK
      have HM : Aside _ := And.intro hiz (And.intro hiz2 (And.intro hiz3 hiz4))
      have HLL : Aside _ := hll
      have HPL : Aside (d.size < 2305843009213693952 ∧ A.length + B.length ≤ N ∧ a = pre.length ∧ m = a + A.length ∧ b = m + B.length) := ⟨hsz, HO.out.2.2.2, HAB.out⟩
      have HDL : Hid (d.toList = pre ++ (A1 ++ (A2 ++ (B1 ++ (B2 ++ post))))) := by show _ = _; rw [HD.out, KK.hA, KK.hB]; simp
      clear he KK hiz hiz2 hiz3 hiz4 hll
      have HE : Aside (e + i = mid + m) := by show _ = _; omega
      by_cases c1 : a < i
      · have c1z : (a : Int) < (i : Int) := by omega
        have c2 : i < m := by omega
        have c2z : (i : Int) < (m : Int) := by omega
        have c2y : (mid : Int) < (e : Int) := by omega
        by_cases c3 : m < e
        · have c3z : (m : Int) < (e : Int) := by omega
          have c3y : (i : Int) < (mid : Int) := by omega
          by_cases c4 : e < b
          · have c4z : (e : Int) < (b : Int) := by omega
            have zz : True := trivial
            go_wp2_with fail
            go_at_fn 81
            refine (rotate_any T F F1 enc _ blk off cap d0 d w0 _ R hs S1.out (by omega) (pre ++ A1) A2 B1 (B2 ++ post) (by rw [HDL.out]; simp) (by have := HLL.out; omega) (by have := HLL.out; omega) d.size rfl (by have := HLL.out; have := HPL.out; simp; omega) (by have := HLL.out; have := HPL.out; simp; omega) (by have := HLL.out; have := HPL.out; simp; omega)).mono ?_
            rintro _ w1 ⟨rfl, d1, hd1, hl1, hw1⟩
            replace hl1 : Hid (d1.toList = pre ++ (A1 ++ (B1 ++ (A2 ++ (B2 ++ post))))) := by show _ = _; rw [hl1]; simp
            have SA : Aside _ := hw1
            have hds1 : d1.size ≤ d.size ∧ d.size ≤ d1.size := by omega
            clear hw1
            go_wp2_with fail
            go_at_fn 78
            refine (HIH.out d1 _ pre A1 B1 (A2 ++ (B2 ++ post)) (by omega) SA.out hl1.out (by have := HLL.out; have := HPL.out; omega) (by have := HLL.out; omega) (by have := HLL.out; omega) HK.out.s1 HK.out.s3 (fun x hx y hy => HO.out.2.2.1 x (HM.out.1 x hx) y (HM.out.2.2.1 y hy)) d.size _ _ _ (by omega) (by have := HLL.out; have := HPL.out; omega) (by have := HLL.out; have := HPL.out; omega) (by have := HLL.out; have := HPL.out; have := HE.out; omega)).mono ?_
            rintro _ w2 ⟨rfl, C1, d2, hd2, hp1, hs1, hl2, hw2⟩
            have SB : Aside _ := hw2
            have HP1 : Aside _ := And.intro hp1 hs1
            have HL2 : Hid _ := hl2
            have hds2 : d2.size ≤ d.size ∧ d.size ≤ d2.size := by omega
            have HC1 : Aside (C1.length = A1.length + B1.length) := by show _ = _; rw [hp1.length_eq]; simp
            clear hw2 hp1 hs1 hl2 hl1 SA hd2 hd1
            go_wp2_with fail
            go_at_fn 78
            refine (HIH.out d2 _ (pre ++ C1) A2 B2 post (by omega) SB.out (by rw [HL2.out]; simp) (by have := HLL.out; have := HPL.out; omega) (by have := HLL.out; omega) (by have := HLL.out; omega) HK.out.s2 HK.out.s4 (fun x hx y hy => HO.out.2.2.1 x (HM.out.2.1 x hx) y (HM.out.2.2.2 y hy)) d.size _ _ _ (by omega) (by have := HLL.out; have := HPL.out; have := HE.out; have := HC1.out; simp; omega) (by have := HLL.out; have := HPL.out; have := HE.out; have := HC1.out; simp; omega) (by have := HLL.out; have := HPL.out; have := HE.out; have := HC1.out; simp; omega)).mono ?_
            rintro _ w3 ⟨rfl, C2, d3, hd3, hp2, hs2, hl3, hw3⟩
            replace hl3 : Hid _ := hl3
            have HP2 : Aside _ := And.intro hp2 hs2
            clear hp2 hs2
            have SC : Aside _ := hw3
            clear hw3
            go_wp2
            all_goals go_end0
            all_goals obtain ⟨r1, r2⟩ := merge_join HK.out.cr HP1.out.1 HP2.out.1 HP1.out.2 HP2.out.2
            all_goals exact ⟨rfl, C1 ++ C2, d3, by omega, by rw [HK.out.hA, HK.out.hB]; exact r2, r1, by rw [hl3.out]; simp, SC.out⟩
          · have c4z : ¬ (e : Int) < (b : Int) := by omega
            have zz : True := trivial
            go_wp2_with fail
            go_at_fn 81
            refine (rotate_any T F F1 enc _ blk off cap d0 d w0 _ R hs S1.out (by omega) (pre ++ A1) A2 B1 (B2 ++ post) (by rw [HDL.out]; simp) (by have := HLL.out; omega) (by have := HLL.out; omega) d.size rfl (by have := HLL.out; have := HPL.out; simp; omega) (by have := HLL.out; have := HPL.out; simp; omega) (by have := HLL.out; have := HPL.out; simp; omega)).mono ?_
            rintro _ w1 ⟨rfl, d1, hd1, hl1, hw1⟩
            replace hl1 : Hid (d1.toList = pre ++ (A1 ++ (B1 ++ (A2 ++ (B2 ++ post))))) := by show _ = _; rw [hl1]; simp
            have SA : Aside _ := hw1
            have hds1 : d1.size ≤ d.size ∧ d.size ≤ d1.size := by omega
            clear hw1
            go_wp2_with fail
            go_at_fn 78
            refine (HIH.out d1 _ pre A1 B1 (A2 ++ (B2 ++ post)) (by omega) SA.out hl1.out (by have := HLL.out; have := HPL.out; omega) (by have := HLL.out; omega) (by have := HLL.out; omega) HK.out.s1 HK.out.s3 (fun x hx y hy => HO.out.2.2.1 x (HM.out.1 x hx) y (HM.out.2.2.1 y hy)) d.size _ _ _ (by omega) (by have := HLL.out; have := HPL.out; omega) (by have := HLL.out; have := HPL.out; omega) (by have := HLL.out; have := HPL.out; have := HE.out; omega)).mono ?_
            rintro _ w2 ⟨rfl, C1, d2, hd2, hp1, hs1, hl2, hw2⟩
            have SB : Aside _ := hw2
            have HP1 : Aside _ := And.intro hp1 hs1
            have HL2 : Hid _ := hl2
            have hds2 : d2.size ≤ d.size ∧ d.size ≤ d2.size := by omega
            have HC1 : Aside (C1.length = A1.length + B1.length) := by show _ = _; rw [hp1.length_eq]; simp
            clear hw2 hp1 hs1 hl2 hl1 SA hd2 hd1
            obtain ⟨C2, d3, hd3, hp2, hs2, hl3, hw3⟩ : ∃ (C2 : List α) (d3 : Array α), d3.size = d2.size ∧ C2.Perm (A2 ++ B2) ∧ Srt Rr C2 ∧ Hid (d3.toList = (pre ++ C1) ++ (C2 ++ post)) ∧ SWK enc k w0 blk off d3 w2 := ⟨A2 ++ B2, d2, rfl, List.Perm.refl _, by
              rw [show B2 = [] from List.eq_nil_of_length_eq_zero (by have := HLL.out; omega)]; simpa using HK.out.s2, by show _ = _; rw [HL2.out]; simp, SB.out⟩
            have HP2 : Aside _ := And.intro hp2 hs2
            clear hp2 hs2
            have SC : Aside _ := hw3
            clear hw3
            go_wp2
            all_goals go_end0
            all_goals obtain ⟨r1, r2⟩ := merge_join HK.out.cr HP1.out.1 HP2.out.1 HP1.out.2 HP2.out.2
            all_goals exact ⟨rfl, C1 ++ C2, d3, by omega, by rw [HK.out.hA, HK.out.hB]; exact r2, r1, by rw [hl3.out]; simp, SC.out⟩
        · have c3z : ¬ (m : Int) < (e : Int) := by omega
          have c3y : ¬ (i : Int) < (mid : Int) := by omega
          have c4 : e < b := by omega
          have c4z : (e : Int) < (b : Int) := by omega
          have zz : True := trivial
          obtain ⟨d1, hd1, hl1, hw1⟩ : ∃ d1 : Array α, d1.size = d.size ∧ Hid (d1.toList = pre ++ (A1 ++ (B1 ++ (A2 ++ (B2 ++ post))))) ∧ SWK enc k w0 blk off d1 wr := ⟨d, rfl, by
            show _ = _
            rw [HDL.out, show B1 = [] from List.eq_nil_of_length_eq_zero (by have := HLL.out; omega)]; simp, S1.out⟩
          have SA : Aside _ := hw1
          have hds1 : d1.size ≤ d.size ∧ d.size ≤ d1.size := by omega
          clear hw1
          obtain ⟨C1, d2, hd2, hp1, hs1, hl2, hw2⟩ : ∃ (C1 : List α) (d2 : Array α), d2.size = d1.size ∧ C1.Perm (A1 ++ B1) ∧ Srt Rr C1 ∧ d2.toList = pre ++ (C1 ++ (A2 ++ (B2 ++ post))) ∧ SWK enc k w0 blk off d2 wr := ⟨A1 ++ B1, d1, rfl, List.Perm.refl _, by
            rw [show B1 = [] from List.eq_nil_of_length_eq_zero (by have := HLL.out; omega)]; simpa using HK.out.s1, by rw [hl1.out]; simp, SA.out⟩
          have SB : Aside _ := hw2
          have HP1 : Aside _ := And.intro hp1 hs1
          have HL2 : Hid _ := hl2
          have hds2 : d2.size ≤ d.size ∧ d.size ≤ d2.size := by omega
          have HC1 : Aside (C1.length = A1.length + B1.length) := by show _ = _; rw [hp1.length_eq]; simp
          clear hw2 hp1 hs1 hl2 hl1 SA hd2 hd1
          go_wp2_with fail
          go_at_fn 78
          refine (HIH.out d2 _ (pre ++ C1) A2 B2 post (by omega) SB.out (by rw [HL2.out]; simp) (by have := HLL.out; have := HPL.out; omega) (by have := HLL.out; omega) (by have := HLL.out; omega) HK.out.s2 HK.out.s4 (fun x hx y hy => HO.out.2.2.1 x (HM.out.2.1 x hx) y (HM.out.2.2.2 y hy)) d.size _ _ _ (by omega) (by have := HLL.out; have := HPL.out; have := HE.out; have := HC1.out; simp; omega) (by have := HLL.out; have := HPL.out; have := HE.out; have := HC1.out; simp; omega) (by have := HLL.out; have := HPL.out; have := HE.out; have := HC1.out; simp; omega)).mono ?_
          rintro _ w3 ⟨rfl, C2, d3, hd3, hp2, hs2, hl3, hw3⟩
          replace hl3 : Hid _ := hl3
          have HP2 : Aside _ := And.intro hp2 hs2
          clear hp2 hs2
          have SC : Aside _ := hw3
          clear hw3
          go_wp2
          all_goals go_end0
          all_goals obtain ⟨r1, r2⟩ := merge_join HK.out.cr HP1.out.1 HP2.out.1 HP1.out.2 HP2.out.2
          all_goals exact ⟨rfl, C1 ++ C2, d3, by omega, by rw [HK.out.hA, HK.out.hB]; exact r2, r1, by rw [hl3.out]; simp, SC.out⟩
      · have c1z : ¬ (a : Int) < (i : Int) := by omega
        have c2 : i < m := by omega
        have c2z : (i : Int) < (m : Int) := by omega
        have c2y : (mid : Int) < (e : Int) := by omega
        by_cases c3 : m < e
        · have c3z : (m : Int) < (e : Int) := by omega
          have c3y : (i : Int) < (mid : Int) := by omega
          by_cases c4 : e < b
          · have c4z : (e : Int) < (b : Int) := by omega
            have zz : True := trivial
            go_wp2_with fail
            go_at_fn 81
            refine (rotate_any T F F1 enc _ blk off cap d0 d w0 _ R hs S1.out (by omega) (pre ++ A1) A2 B1 (B2 ++ post) (by rw [HDL.out]; simp) (by have := HLL.out; omega) (by have := HLL.out; omega) d.size rfl (by have := HLL.out; have := HPL.out; simp; omega) (by have := HLL.out; have := HPL.out; simp; omega) (by have := HLL.out; have := HPL.out; simp; omega)).mono ?_
            rintro _ w1 ⟨rfl, d1, hd1, hl1, hw1⟩
            replace hl1 : Hid (d1.toList = pre ++ (A1 ++ (B1 ++ (A2 ++ (B2 ++ post))))) := by show _ = _; rw [hl1]; simp
            have SA : Aside _ := hw1
            have hds1 : d1.size ≤ d.size ∧ d.size ≤ d1.size := by omega
            clear hw1
            obtain ⟨C1, d2, hd2, hp1, hs1, hl2, hw2⟩ : ∃ (C1 : List α) (d2 : Array α), d2.size = d1.size ∧ C1.Perm (A1 ++ B1) ∧ Srt Rr C1 ∧ d2.toList = pre ++ (C1 ++ (A2 ++ (B2 ++ post))) ∧ SWK enc k w0 blk off d2 w1 := ⟨A1 ++ B1, d1, rfl, List.Perm.refl _, by
              rw [show A1 = [] from List.eq_nil_of_length_eq_zero (by have := HLL.out; omega)]; simpa using HK.out.s3, by rw [hl1.out]; simp, SA.out⟩
            have SB : Aside _ := hw2
            have HP1 : Aside _ := And.intro hp1 hs1
            have HL2 : Hid _ := hl2
            have hds2 : d2.size ≤ d.size ∧ d.size ≤ d2.size := by omega
            have HC1 : Aside (C1.length = A1.length + B1.length) := by show _ = _; rw [hp1.length_eq]; simp
            clear hw2 hp1 hs1 hl2 hl1 SA hd2 hd1
            go_wp2_with fail
            go_at_fn 78
            refine (HIH.out d2 _ (pre ++ C1) A2 B2 post (by omega) SB.out (by rw [HL2.out]; simp) (by have := HLL.out; have := HPL.out; omega) (by have := HLL.out; omega) (by have := HLL.out; omega) HK.out.s2 HK.out.s4 (fun x hx y hy => HO.out.2.2.1 x (HM.out.2.1 x hx) y (HM.out.2.2.2 y hy)) d.size _ _ _ (by omega) (by have := HLL.out; have := HPL.out; have := HE.out; have := HC1.out; simp; omega) (by have := HLL.out; have := HPL.out; have := HE.out; have := HC1.out; simp; omega) (by have := HLL.out; have := HPL.out; have := HE.out; have := HC1.out; simp; omega)).mono ?_
            rintro _ w3 ⟨rfl, C2, d3, hd3, hp2, hs2, hl3, hw3⟩
            replace hl3 : Hid _ := hl3
            have HP2 : Aside _ := And.intro hp2 hs2
            clear hp2 hs2
            have SC : Aside _ := hw3
            clear hw3
            go_wp2
            all_goals go_end0
            all_goals obtain ⟨r1, r2⟩ := merge_join HK.out.cr HP1.out.1 HP2.out.1 HP1.out.2 HP2.out.2
            all_goals exact ⟨rfl, C1 ++ C2, d3, by omega, by rw [HK.out.hA, HK.out.hB]; exact r2, r1, by rw [hl3.out]; simp, SC.out⟩
          · have c4z : ¬ (e : Int) < (b : Int) := by omega
            have zz : True := trivial
            go_wp2_with fail
            go_at_fn 81
            refine (rotate_any T F F1 enc _ blk off cap d0 d w0 _ R hs S1.out (by omega) (pre ++ A1) A2 B1 (B2 ++ post) (by rw [HDL.out]; simp) (by have := HLL.out; omega) (by have := HLL.out; omega) d.size rfl (by have := HLL.out; have := HPL.out; simp; omega) (by have := HLL.out; have := HPL.out; simp; omega) (by have := HLL.out; have := HPL.out; simp; omega)).mono ?_
            rintro _ w1 ⟨rfl, d1, hd1, hl1, hw1⟩
            replace hl1 : Hid (d1.toList = pre ++ (A1 ++ (B1 ++ (A2 ++ (B2 ++ post))))) := by show _ = _; rw [hl1]; simp
            have SA : Aside _ := hw1
            have hds1 : d1.size ≤ d.size ∧ d.size ≤ d1.size := by omega
            clear hw1
            obtain ⟨C1, d2, hd2, hp1, hs1, hl2, hw2⟩ : ∃ (C1 : List α) (d2 : Array α), d2.size = d1.size ∧ C1.Perm (A1 ++ B1) ∧ Srt Rr C1 ∧ d2.toList = pre ++ (C1 ++ (A2 ++ (B2 ++ post))) ∧ SWK enc k w0 blk off d2 w1 := ⟨A1 ++ B1, d1, rfl, List.Perm.refl _, by
              rw [show A1 = [] from List.eq_nil_of_length_eq_zero (by have := HLL.out; omega)]; simpa using HK.out.s3, by rw [hl1.out]; simp, SA.out⟩
            have SB : Aside _ := hw2
            have HP1 : Aside _ := And.intro hp1 hs1
            have HL2 : Hid _ := hl2
            have hds2 : d2.size ≤ d.size ∧ d.size ≤ d2.size := by omega
            have HC1 : Aside (C1.length = A1.length + B1.length) := by show _ = _; rw [hp1.length_eq]; simp
            clear hw2 hp1 hs1 hl2 hl1 SA hd2 hd1
            obtain ⟨C2, d3, hd3, hp2, hs2, hl3, hw3⟩ : ∃ (C2 : List α) (d3 : Array α), d3.size = d2.size ∧ C2.Perm (A2 ++ B2) ∧ Srt Rr C2 ∧ Hid (d3.toList = (pre ++ C1) ++ (C2 ++ post)) ∧ SWK enc k w0 blk off d3 w1 := ⟨A2 ++ B2, d2, rfl, List.Perm.refl _, by
              rw [show B2 = [] from List.eq_nil_of_length_eq_zero (by have := HLL.out; omega)]; simpa using HK.out.s2, by show _ = _; rw [HL2.out]; simp, SB.out⟩
            have HP2 : Aside _ := And.intro hp2 hs2
            clear hp2 hs2
            have SC : Aside _ := hw3
            clear hw3
            go_wp2
            all_goals go_end0
            all_goals obtain ⟨r1, r2⟩ := merge_join HK.out.cr HP1.out.1 HP2.out.1 HP1.out.2 HP2.out.2
            all_goals exact ⟨rfl, C1 ++ C2, d3, by omega, by rw [HK.out.hA, HK.out.hB]; exact r2, r1, by rw [hl3.out]; simp, SC.out⟩
        · have c3z : ¬ (m : Int) < (e : Int) := by omega
          have c3y : ¬ (i : Int) < (mid : Int) := by omega
          have c4 : e < b := by omega
          have c4z : (e : Int) < (b : Int) := by omega
          have zz : True := trivial
          obtain ⟨d1, hd1, hl1, hw1⟩ : ∃ d1 : Array α, d1.size = d.size ∧ Hid (d1.toList = pre ++ (A1 ++ (B1 ++ (A2 ++ (B2 ++ post))))) ∧ SWK enc k w0 blk off d1 wr := ⟨d, rfl, by
            show _ = _
            rw [HDL.out, show B1 = [] from List.eq_nil_of_length_eq_zero (by have := HLL.out; omega)]; simp, S1.out⟩
          have SA : Aside _ := hw1
          have hds1 : d1.size ≤ d.size ∧ d.size ≤ d1.size := by omega
          clear hw1
          obtain ⟨C1, d2, hd2, hp1, hs1, hl2, hw2⟩ : ∃ (C1 : List α) (d2 : Array α), d2.size = d1.size ∧ C1.Perm (A1 ++ B1) ∧ Srt Rr C1 ∧ d2.toList = pre ++ (C1 ++ (A2 ++ (B2 ++ post))) ∧ SWK enc k w0 blk off d2 wr := ⟨A1 ++ B1, d1, rfl, List.Perm.refl _, by
            rw [show A1 = [] from List.eq_nil_of_length_eq_zero (by have := HLL.out; omega)]; simpa using HK.out.s3, by rw [hl1.out]; simp, SA.out⟩
          have SB : Aside _ := hw2
          have HP1 : Aside _ := And.intro hp1 hs1
          have HL2 : Hid _ := hl2
          have hds2 : d2.size ≤ d.size ∧ d.size ≤ d2.size := by omega
          have HC1 : Aside (C1.length = A1.length + B1.length) := by show _ = _; rw [hp1.length_eq]; simp
          clear hw2 hp1 hs1 hl2 hl1 SA hd2 hd1
          go_wp2_with fail
          go_at_fn 78
          refine (HIH.out d2 _ (pre ++ C1) A2 B2 post (by omega) SB.out (by rw [HL2.out]; simp) (by have := HLL.out; have := HPL.out; omega) (by have := HLL.out; omega) (by have := HLL.out; omega) HK.out.s2 HK.out.s4 (fun x hx y hy => HO.out.2.2.1 x (HM.out.2.1 x hx) y (HM.out.2.2.2 y hy)) d.size _ _ _ (by omega) (by have := HLL.out; have := HPL.out; have := HE.out; have := HC1.out; simp; omega) (by have := HLL.out; have := HPL.out; have := HE.out; have := HC1.out; simp; omega) (by have := HLL.out; have := HPL.out; have := HE.out; have := HC1.out; simp; omega)).mono ?_
          rintro _ w3 ⟨rfl, C2, d3, hd3, hp2, hs2, hl3, hw3⟩
          replace hl3 : Hid _ := hl3
          have HP2 : Aside _ := And.intro hp2 hs2
          clear hp2 hs2
          have SC : Aside _ := hw3
          clear hw3
          go_wp2
          all_goals go_end0
          all_goals obtain ⟨r1, r2⟩ := merge_join HK.out.cr HP1.out.1 HP2.out.1 HP1.out.2 HP2.out.2
          all_goals exact ⟨rfl, C1 ++ C2, d3, by omega, by rw [HK.out.hA, HK.out.hB]; exact r2, r1, by rw [hl3.out]; simp, SC.out⟩
end Go.Proofs.Yteccpmmedpkddaa
