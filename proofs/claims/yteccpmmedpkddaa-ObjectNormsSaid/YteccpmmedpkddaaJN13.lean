/-
  Stable sorting at a row of structs: two stretches that lie side by side, turned round.
  Stable sorting at a row of structs: merging where the first stretch is one element.
  Stable sorting at a row of structs: merging where the second stretch is one element.
-/
import Derived.Test.YteccpmmedpkddaaJN12
namespace Go.Proofs.Yteccpmmedpkddaa
open Go.Shelf Go.RowKit Go.Lib Go.Sort
variable {P : Program} {k : Nat} {α : Type} [Inhabited α]

theorem swapRange_at (T : StT P k) (F : P.funcs[82]? = some Try.f82) (enc : α → List Value) (fv : Value) (blk off cap : Nat) (d0 d : Array α) (w0 w : World)
    (R : RowK enc k w0 blk off d0) (hs : d0.size = d.size) (S : SWK enc k w0 blk off d w) (hsz : d.size < 4611686018427387904)
    (pre X M Y post : List α) (hd : d.toList = pre ++ (X ++ (M ++ (Y ++ post)))) (hXY : X.length = Y.length) (n : Nat) (hn : n = d.size) {x y z : Int} (hx : x = (pre.length : Nat)) (hy : y = (pre.length + X.length + M.length : Nat)) (hz : z = (X.length : Nat)) :
    Calls P 82 #[.slice (some ⟨blk, off, none⟩) n cap, .int .i64 x, .int .i64 y, .int .i64 z, fv] w fun e w' =>
      e = .returned (.tuple #[]) ∧ ∃ d' : Array α, d'.size = d.size ∧ d'.toList = pre ++ (Y ++ (M ++ (X ++ post))) ∧ SWK enc k w0 blk off d' w' := by
  subst hx hy hz hn
  exact swapRange_any T F enc fv blk off cap d0 d w0 w R hs S hsz pre X M Y post hd hXY

set_option maxHeartbeats 4000000 in
set_option maxRecDepth 1000000 in
/-- slices.rotateCmpFunc. -/
theorem rotate_any (T : StT P k) (F : P.funcs[82]? = some Try.f82) (F2 : P.funcs[81]? = some Try.f81) (enc : α → List Value) (fv : Value) (blk off cap : Nat) (d0 d : Array α) (w0 w : World)
    (R : RowK enc k w0 blk off d0) (hs : d0.size = d.size) (S : SWK enc k w0 blk off d w) (hsz : d.size < 4611686018427387904)
    (pre A B post : List α) (hd : d.toList = pre ++ (A ++ (B ++ post))) (hA : 0 < A.length) (hB : 0 < B.length) (n : Nat) (hn : n = d.size) {x y z : Int} (hx : x = (pre.length : Nat)) (hy : y = (pre.length + A.length : Nat)) (hz : z = (pre.length + A.length + B.length : Nat)) :
    Calls P 81 #[.slice (some ⟨blk, off, none⟩) n cap, .int .i64 x, .int .i64 y, .int .i64 z, fv] w fun e w' =>
      e = .returned (.tuple #[]) ∧ ∃ d' : Array α, d'.size = d.size ∧ d'.toList = pre ++ (B ++ (A ++ post)) ∧ SWK enc k w0 blk off d' w' := by
  have mixed := T.mixed; have t0 := T.t0; have a0 := T.a0; have z0 := T.z0; have v0 := T.v0; have t3 := T.t3; have a3 := T.a3; have z3 := T.z3; have v3 := T.v3; have t4 := T.t4; have a4 := T.a4; have z4 := T.z4; have v4 := T.v4; have t22 := T.t22; have a22 := T.a22; have z22 := T.z22; have v22 := T.v22; have t25 := T.t25; have a25 := T.a25; have z25 := T.z25; have v25 := T.v25
  have e65 : ∀ args w, (callFunc 82 args).run P w = .ok (.enter 82 args) w := enters_of F (by kernel_rfl) rfl
  have S0 : Aside (SWK enc k w0 blk off d w) := S
  have hdl : d.size = pre.length + A.length + B.length + post.length := by
    have := congrArg List.length hd
    simp at this; omega
  have HD : Hid _ := hd
  clear S hd
  obtain ⟨G, hG⟩ : ∃ G, G = pre ++ (B ++ (A ++ post)) := ⟨_, rfl⟩
  rw [← hG]
  have HG : Hid _ := hG
  clear hG
  obtain ⟨a, ha⟩ : ∃ a, a = pre.length := ⟨_, rfl⟩
  obtain ⟨la, hla⟩ : ∃ n, n = A.length := ⟨_, rfl⟩
  obtain ⟨lb, hlb⟩ : ∃ n, n = B.length := ⟨_, rfl⟩
  rw [← ha] at hx hy hz hdl
  rw [← hla] at hy hz hdl hA
  rw [← hlb] at hz hdl hB
  obtain ⟨m, hm⟩ : ∃ m, m = a + la := ⟨_, rfl⟩
  obtain ⟨b, hb⟩ : ∃ b, b = m + lb := ⟨_, rfl⟩
  rw [← hm] at hy hz hdl
  rw [← hb] at hz hdl
  have hbd : b ≤ d.size := by omega
  have HA : Aside _ := And.intro ha (And.intro hla hlb)
  subst hx hy hz hn
  have hm1 : m ≤ a + la := by omega
  have hm2 : a + la ≤ m := by omega
  have hb1 : b ≤ m + lb := by omega
  have hb2 : m + lb ≤ b := by omega
  clear ha hla hlb hdl hm hb
  go_enter F2, Try.ntmps81
  go_wp2
  go_loopg [10, 11] (la + lb) (fun kx s10 s11 wr => ∃ (i j : Nat) (dk : Array α) (pr A1 B1 po : List α), s10 = .int .i64 i ∧ s11 = .int .i64 j ∧ 0 < i ∧ 0 < j ∧ i ≤ m ∧ m + j ≤ b ∧ i + j ≤ kx ∧ dk.size = d.size ∧
    Aside (dk.toList = pr ++ (A1 ++ (B1 ++ po)) ∧ A1.length = i ∧ B1.length = j ∧ pr.length + i = m ∧ G = pr ++ (B1 ++ (A1 ++ po))) ∧ Aside (SWK enc k w0 blk off dk wr))
  case atStart => exact ⟨la, lb, d, pre, A, B, post, by go_num, by go_num, hA, hB, by omega, by omega, Nat.le_refl _, rfl, ⟨HD.out, HA.out.2.1.symm, HA.out.2.2.symm, by have := HA.out; omega, HG.out⟩, S0⟩
  case round =>
    clear S0
    obtain ⟨i, j, dk, pr, A1, B1, po, rfl, rfl, hi0, hj0, him, hjb, hkx, hds, HL, S1⟩ := hrel
    rcases Nat.lt_trichotomy i j with hij | hij | hij
    · have hijz : (i : Int) < (j : Int) := by omega
      have hne : ¬ (i : Int) = (j : Int) := by omega
      have hng : ¬ (i : Int) > (j : Int) := by omega
      have hcon : ∀ fv x y z, x = (m : Int) - (i : Int) → y = (m : Int) + (j : Int) - (i : Int) → z = (i : Int) → Calls P 82 #[.slice (some ⟨blk, off, none⟩) d.size cap, .int .i64 x, .int .i64 y, .int .i64 z, fv] wr fun e w' =>
          e = .returned (.tuple #[]) ∧ ∃ d' : Array α, d'.size = dk.size ∧ d'.toList = pr ++ (B1.drop (j - i) ++ (B1.take (j - i) ++ (A1 ++ po))) ∧ SWK enc k w0 blk off d' w' := fun fv x y z hx hy hz => by
        obtain ⟨h1, h2, h3, h4, h5⟩ := HL.out
        have e1 : (B1.take (j - i)).length = j - i := by simp; omega
        exact swapRange_at T F enc fv blk off cap d0 dk w0 wr R (by omega) S1.out (by omega) pr A1 (B1.take (j - i)) (B1.drop (j - i)) po (by rw [h1]; simp [← List.append_assoc, List.take_append_drop]) (by simp; omega) d.size (by omega) (by omega) (by omega) (by omega)
      go_wp2_with (go_at_fn 82; refine (hcon _ _ _ _ (by omega) (by omega) (by omega)).mono ?_; rintro e w1 ⟨rfl, d1, hd1, hl1, hw1⟩)
      go_roundg (i + (j - i))
      case measure => omega
      case rel =>
        obtain ⟨h1, h2, h3, h4, h5⟩ := HL.out
        refine ⟨i, j - i, d1, pr, B1.drop (j - i), B1.take (j - i), A1 ++ po, rfl, by go_num, by omega, by omega, by omega, by omega, Nat.le_refl _, by omega, ⟨hl1, by simp; omega, by simp; omega, by omega, ?_⟩, hw1⟩
        rw [h5]
        conv => lhs; rw [← List.take_append_drop (j - i) B1]
        simp only [List.append_assoc]
    · subst hij
      have hcon : ∀ fv x y z, x = (m : Int) - (i : Int) → y = (m : Int) → z = (i : Int) → Calls P 82 #[.slice (some ⟨blk, off, none⟩) d.size cap, .int .i64 x, .int .i64 y, .int .i64 z, fv] wr fun e w' =>
          e = .returned (.tuple #[]) ∧ ∃ d' : Array α, d'.size = dk.size ∧ d'.toList = pr ++ (B1 ++ ([] ++ (A1 ++ po))) ∧ SWK enc k w0 blk off d' w' := fun fv x y z hx hy hz => by
        obtain ⟨h1, h2, h3, h4, h5⟩ := HL.out
        exact swapRange_at T F enc fv blk off cap d0 dk w0 wr R (by omega) S1.out (by omega) pr A1 [] B1 po (by rw [h1]; simp) (by omega) d.size (by omega) (by omega) (by simp; omega) (by omega)
      go_wp2_with (go_at_fn 82; refine (hcon _ _ _ _ (by omega) (by omega) (by omega)).mono ?_; rintro e w1 ⟨rfl, d1, hd1, hl1, hw1⟩)
      go_end0
      obtain ⟨h1, h2, h3, h4, h5⟩ := HL.out
      exact ⟨rfl, d1, by omega, by rw [hl1, h5]; simp, hw1⟩
    · have hijz : (j : Int) < (i : Int) := by omega
      have hne : ¬ (i : Int) = (j : Int) := by omega
      have hng : (i : Int) > (j : Int) := by omega
      have hcon : ∀ fv x y z, x = (m : Int) - (i : Int) → y = (m : Int) → z = (j : Int) → Calls P 82 #[.slice (some ⟨blk, off, none⟩) d.size cap, .int .i64 x, .int .i64 y, .int .i64 z, fv] wr fun e w' =>
          e = .returned (.tuple #[]) ∧ ∃ d' : Array α, d'.size = dk.size ∧ d'.toList = pr ++ (B1 ++ (A1.drop j ++ (A1.take j ++ po))) ∧ SWK enc k w0 blk off d' w' := fun fv x y z hx hy hz => by
        obtain ⟨h1, h2, h3, h4, h5⟩ := HL.out
        have e1 : (A1.take j).length = j := by simp; omega
        have e2 : (A1.drop j).length = i - j := by simp; omega
        exact swapRange_at T F enc fv blk off cap d0 dk w0 wr R (by omega) S1.out (by omega) pr (A1.take j) (A1.drop j) B1 po (by rw [h1]; simp only [← List.append_assoc]; simp only [List.append_assoc pr, List.take_append_drop]) (by omega) d.size (by omega) (by omega) (by omega) (by omega)
      go_wp2_with (go_at_fn 82; refine (hcon _ _ _ _ (by omega) (by omega) (by omega)).mono ?_; rintro e w1 ⟨rfl, d1, hd1, hl1, hw1⟩)
      go_roundg (i - j + j)
      case measure => omega
      case rel =>
        obtain ⟨h1, h2, h3, h4, h5⟩ := HL.out
        refine ⟨i - j, j, d1, pr ++ B1, A1.drop j, A1.take j, po, by go_num, rfl, by omega, by omega, by omega, by omega, Nat.le_refl _, by omega, ⟨by rw [hl1]; simp only [List.append_assoc], by simp; omega, by simp; omega, by simp; omega, ?_⟩, hw1⟩
        rw [h5]
        conv => lhs; rw [← List.take_append_drop j A1]
        simp only [List.append_assoc]
end Go.Proofs.Yteccpmmedpkddaa
namespace Go.Proofs.Yteccpmmedpkddaa
open Go.Shelf Go.RowKit Go.Lib Go.Sort
section
variable {α : Type} [Inhabited α]
theorem arr_at {d : Array α} {p q : List α} (hd : d.toList = p ++ q) (t : Nat) (ht : t < q.length) : d[p.length + t]! = q[t]! := by
  have hs : d.size = p.length + q.length := by
    have := congrArg List.length hd
    simp at this; omega
  rw [getElem!_pos d _ (by omega), getElem!_pos q t ht, ← Array.getElem_toList]
  simp only [hd]
  rw [List.getElem_append_right (by omega)]
  congr 1; omega
theorem cut_at (l : List α) (t : Nat) (ht : t < l.length) : l.drop t = l[t]! :: l.drop (t + 1) := by
  rw [getElem!_pos l t ht]; exact List.drop_eq_getElem_cons ht
theorem take_at (l : List α) (t : Nat) (ht : t < l.length) : l.take (t + 1) = l.take t ++ [l[t]!] := by
  rw [getElem!_pos l t ht]; exact List.take_succ_eq_append_getElem ht
end
variable {P : Program} {k : Nat} {α : Type} [Inhabited α]

set_option maxHeartbeats 8000000 in
set_option maxRecDepth 1000000 in
theorem symMerge_one (T : StT P k) (F2 : P.funcs[78]? = some Try.f78) (enc : α → List Value) (cf : α → α → Int) (Rr : α → α → Bool) (hO : SWO Rr) (g : Nat) (cb : Array Value) (blk off cap : Nat) (d0 d : Array α) (w0 w : World)
    (eg : ∀ args w, (callFunc g args).run P w = .ok (.enter g args) w) (hcmp : CmpLays P g cb enc k cf blk off d0.size w0)
    (R : RowK enc k w0 blk off d0) (hs : d0.size = d.size) (S : SWK enc k w0 blk off d w) (hsz : d.size < 2305843009213693952)
    (pre : List α) (xa : α) (B post : List α) (hd : d.toList = pre ++ (xa :: (B ++ post))) (hB : 0 < B.length) (hsB : Srt Rr B) (hx : ∀ y ∈ B, ltOf cf y xa = Rr y xa)
    (n : Nat) (hn : n = d.size) {x y z : Int} (hx1 : x = (pre.length : Nat)) (hy : y = (pre.length + 1 : Nat)) (hz : z = (pre.length + 1 + B.length : Nat)) :
    Calls P 78 #[.slice (some ⟨blk, off, none⟩) n cap, .int .i64 x, .int .i64 y, .int .i64 z, .func (.func g) #[] cb] w fun e w' =>
      e = .returned (.tuple #[]) ∧ ∃ (C : List α) (d' : Array α), d'.size = d.size ∧ C.Perm (xa :: B) ∧ Srt Rr C ∧ d'.toList = pre ++ (C ++ post) ∧ SWK enc k w0 blk off d' w' := by
  have mixed := T.mixed; have t0 := T.t0; have a0 := T.a0; have z0 := T.z0; have v0 := T.v0; have t3 := T.t3; have a3 := T.a3; have z3 := T.z3; have v3 := T.v3; have t4 := T.t4; have a4 := T.a4; have z4 := T.z4; have v4 := T.v4; have t22 := T.t22; have a22 := T.a22; have z22 := T.z22; have v22 := T.v22; have t25 := T.t25; have a25 := T.a25; have z25 := T.z25; have v25 := T.v25
  have t39 := T.t39; have a39 := T.a39; have z39 := T.z39; have v39 := T.v39
  have aE := T.aE; have zE := T.zE
  have S0 : Aside (SWK enc k w0 blk off d w) := S
  have HC : Aside _ := hcmp
  have hdl : d.size = pre.length + 1 + B.length + post.length := by
    have := congrArg List.length hd
    simp at this; omega
  have HD : Hid _ := hd
  have HO : Aside _ := And.intro hsB hx
  clear S hd hcmp hsB hx
  obtain ⟨a, ha⟩ : ∃ a, a = pre.length := ⟨_, rfl⟩
  obtain ⟨m, hm⟩ : ∃ m, m = a + 1 := ⟨_, rfl⟩
  obtain ⟨b, hb⟩ : ∃ b, b = m + B.length := ⟨_, rfl⟩
  rw [← ha] at hx1 hy hz hdl
  rw [← hm] at hy hz hdl
  rw [← hb] at hz hdl
  have hbd : b ≤ d.size := by omega
  have hmb : m < b := by omega
  have ha1 : d[a]! = xa := by
    have := arr_at (d := d) HD.out 0 (by simp)
    rw [← ha] at this; simpa using this
  have hb1 : ∀ t, m ≤ t → t < b → d[t]! = B[t - m]! := fun t ht1 ht2 => by
    have := arr_at (d := d) (p := pre ++ [xa]) (q := B ++ post) (by rw [HD.out]; simp) (t - m) (by simp; omega)
    rw [List.length_append, ← ha, List.length_singleton, ← hm, show m + (t - m) = t by omega] at this
    rw [this, getElem!_pos _ _ (by simp; omega), getElem!_pos _ _ (by omega), List.getElem_append_left (by omega)]
  have hxd : ∀ t, m ≤ t → t < b → ltOf cf d[t]! xa = Rr d[t]! xa := fun t ht1 ht2 => by
    refine HO.out.2 _ ?_
    rw [hb1 t ht1 ht2, getElem!_pos _ _ (by omega)]
    exact List.getElem_mem _
  have HX : Aside _ := hxd
  have HAB : Aside _ := And.intro ha (And.intro hb (And.intro ha1 hb1))
  subst hx1 hy hz hn
  have hm1 : m ≤ a + 1 := by omega
  have hm2 : a + 1 ≤ m := by omega
  have hmz : (m : Int) - (a : Int) = 1 := by omega
  clear ha hb hdl ha1 hb1 hxd hm
  go_enter F2, Try.ntmps78
  go_wp2
  go_loopg [10, 11] (b - m) (fun kx s10 s11 wr => ∃ (i j : Nat), s10 = .int .i64 i ∧ s11 = .int .i64 j ∧ m ≤ i ∧ i ≤ j ∧ j ≤ b ∧ j - i ≤ kx ∧
    Aside ((i = m ∨ Rr d[i - 1]! xa = true) ∧ (j = b ∨ Rr d[j]! xa = false)) ∧ Aside (SWK enc k w0 blk off d wr))
  case atStart => exact ⟨m, b, rfl, rfl, by omega, by omega, by omega, Nat.le_refl _, ⟨.inl rfl, .inl rfl⟩, S0⟩
  case round =>
    clear S0
    obtain ⟨i, j, rfl, rfl, hmi, hij, hjb, hkx, HI, S1⟩ := hrel
    by_cases hlt : i < j
    · obtain ⟨h, hh⟩ : ∃ h, h = (i + j) / 2 := ⟨_, rfl⟩
      have hltz : (i : Int) < (j : Int) := by omega
      have hz : ((i : Int) + (j : Int)) / 2 = (h : Int) := by omega
      have hih : i ≤ h := by omega
      have hhj : h < j := by omega
      clear hh
      have ea112 : ((h : Int)).toNat = h := by omega
      have pa112 : (0 : Int) ≤ (h : Int) := by omega
      have ba112 : (h : Int) < (d.size : Int) := by omega
      have ra112 : IntKind.i64.wrap ((h : Int)) = (h : Int) := by rw [IntKind.wrap_i64]; omega
      have ec112 : ((a : Int)).toNat = a := by omega
      have pc112 : (0 : Int) ≤ (a : Int) := by omega
      have bc112 : (a : Int) < (d.size : Int) := by omega
      have rc112 : IntKind.i64.wrap ((a : Int)) = (a : Int) := by rw [IntKind.wrap_i64]; omega
      obtain ⟨x112, hx112⟩ : ∃ x, x = d[h]! := ⟨_, rfl⟩
      have l112a := S1.out.ld R (by omega) P h (by omega)
      have l112b := S1.out.ld R (by omega) P a (by omega)
      rw [← hx112] at l112a
      rw [HAB.out.2.2.1] at l112b
      have hc112 := S1.out.cmp HC.out (by omega) x112 xa
      have HX1 : Aside (ltOf cf x112 xa = Rr x112 xa) := by show _ = _; rw [hx112]; exact HX.out h (by omega) (by omega)
      have HX2 : Aside (x112 = d[h]!) := hx112
      clear hx112
      cases hlv : ltOf cf x112 xa with
      | true =>
        have hv112 : cf x112 xa < 0 := of_decide_eq_true hlv
        have hd112 : decide (cf x112 xa < 0) = true := decide_eq_true hv112
        have HL : Hid _ := hlv
        clear hlv
        go_wp2_with fail
        go_quiet_grown (first | (go_at_fn g; refine Calls.grown_of (hc112 _ _)))
        have S2 : Aside (SWK enc k w0 blk off d (grow (wr.drewN nq) osq)) := S1.out.grown nq osq
        clear l112a l112b hc112 S1
        generalize grow (wr.drewN nq) osq = wu2 at S2 ⊢
        clear nq osq
        go_wp2
        go_roundg (j - (h + 1))
        case measure => omega
        case rel => exact ⟨h + 1, j, by go_num, rfl, by omega, by omega, by omega, Nat.le_refl _, ⟨.inr (by rw [Nat.add_sub_cancel, ← HX2.out, ← HX1.out]; exact HL.out), HI.out.2⟩, S2⟩
      | false =>
        have hv112 : ¬ cf x112 xa < 0 := of_decide_eq_false hlv
        have hd112 : decide (cf x112 xa < 0) = false := decide_eq_false hv112
        have HL : Hid _ := hlv
        clear hlv
        go_wp2_with fail
        go_quiet_grown (first | (go_at_fn g; refine Calls.grown_of (hc112 _ _)))
        have S2 : Aside (SWK enc k w0 blk off d (grow (wr.drewN nq) osq)) := S1.out.grown nq osq
        clear l112a l112b hc112 S1
        generalize grow (wr.drewN nq) osq = wu2 at S2 ⊢
        clear nq osq
        go_wp2
        go_roundg (h - i)
        case measure => omega
        case rel => exact ⟨i, h, rfl, rfl, by omega, by omega, by omega, Nat.le_refl _, ⟨HI.out.1, .inr (by rw [← HX2.out, ← HX1.out]; exact HL.out)⟩, S2⟩
    · obtain rfl : i = j := by omega
      have hltz : ¬ (i : Int) < (i : Int) := by omega
      have hi1 : 0 < i := by omega
      have hi2 : (0 : Int) < (i : Int) := by omega
      go_wp2
      go_loopg [13] (i - m) (fun kx s13 wr => ∃ (t : Nat) (dk : Array α), s13 = .int .i64 ((a : Int) + (t : Int)) ∧ t ≤ i - m ∧ i - m - t ≤ kx ∧ dk.size = d.size ∧
        Aside (dk.toList = pre ++ (B.take t ++ (xa :: (B.drop t ++ post)))) ∧ Aside (SWK enc k w0 blk off dk wr))
      case atStart => exact ⟨0, d, by go_num, by omega, by omega, rfl, HD.out, S1⟩
      case round =>
        clear S1
        obtain ⟨t, dk, rfl, htm, hkx2, hds, HL, S1⟩ := hrel
        by_cases htl : t < i - m
        · have hltz : (a : Int) + (t : Int) < (i : Int) - 1 := by omega
          have ea44 : ((a : Int) + (t : Int)).toNat = a + t := by omega
          have pa44 : (0 : Int) ≤ (a : Int) + (t : Int) := by omega
          have ba44 : (a : Int) + (t : Int) < (d.size : Int) := by omega
          have ra44 : IntKind.i64.wrap ((a : Int) + (t : Int)) = (a : Int) + (t : Int) := by rw [IntKind.wrap_i64]; omega
          have ec44 : ((a : Int) + (t : Int) + 1).toNat = a + t + 1 := by omega
          have pc44 : (0 : Int) ≤ (a : Int) + (t : Int) + 1 := by omega
          have bc44 : (a : Int) + (t : Int) + 1 < (d.size : Int) := by omega
          have rc44 : IntKind.i64.wrap ((a : Int) + (t : Int) + 1) = (a : Int) + (t : Int) + 1 := by rw [IntKind.wrap_i64]; omega
          go_wp2_with fail
          have S2 : Aside (SWK enc k w0 blk off (swp dk (a + t) (a + t + 1)) ((wr.drew.setCells blk (off + (a + t) * k) (enc dk[a + t + 1]!)).setCells blk (off + (a + t + 1) * k) (enc dk[a + t]!))) := S1.out.swapped R (a + t) (a + t + 1) (by omega) (by omega)
          have l44a := S1.out.ld1 R (by omega) P (a + t) (by omega)
          have l44b := S1.out.ld1 R (by omega) P (a + t + 1) (by omega)
          have s44a := S1.out.st1 R (by omega) P (a + t) (by omega) dk[a + t + 1]!
          have s44b := S1.out.st2 R (by omega) P (a + t) (a + t + 1) (by omega) (by omega) dk[a + t + 1]! dk[a + t]!
          have n44a : (enc dk[a + t]!).length = k := R.hk _
          have n44b : (enc dk[a + t + 1]!).length = k := R.hk _
          generalize enc dk[a + t]! = cI44 at S2 l44a s44b n44a
          generalize enc dk[a + t + 1]! = cJ44 at S2 l44b s44a s44b n44b
          clear S1
          go_big_region_o
          clear l44a l44b s44a s44b
          generalize (wr.drew.setCells blk (off + (a + t) * k) cJ44).setCells blk (off + (a + t + 1) * k) cI44 = w2 at S2 ⊢
          go_wp2
          go_roundg (i - m - (t + 1))
          case measure => omega
          case rel =>
            refine ⟨t + 1, swp dk (a + t) (a + t + 1), by go_num, by omega, Nat.le_refl _, by rw [size_swp]; exact hds, ?_, S2⟩
            obtain ⟨g1, g2, g3, g4⟩ := HAB.out
            have htB : t < B.length := by omega
            have hsw := swp_list (d := dk) (p := pre ++ B.take t) (q := []) (r := B.drop (t + 1) ++ post) (x := xa) (y := B[t]!) (i := a + t) (j := a + t + 1) (by rw [HL.out, cut_at B t htB]; simp) (by simp; omega) (by simp; omega)
            show _ = _
            rw [hsw, take_at B t htB]; simp
        · have hltz : ¬ (a : Int) + (t : Int) < (i : Int) - 1 := by omega
          go_wp2
          (try simp only [Exit.inBlock, Exit.then]); refine bodyPost_ret (results_none rfl _ _ _) rfl ?_
          obtain ⟨g1, g2, g3, g4⟩ := HAB.out
          have ht : t = i - m := by omega
          refine ⟨rfl, B.take t ++ xa :: B.drop t, dk, hds, ?_, ?_, by rw [HL.out]; simp, S1.out⟩
          · refine List.perm_middle.trans ?_
            rw [List.take_append_drop]
          · refine merge_one_left hO (by rw [List.take_append_drop]; exact HO.out.1) ?_ ?_
            · rcases HI.out.1 with h1 | h1
              · exact .inl (by rw [ht, h1, Nat.sub_self]; rfl)
              · by_cases h0 : t = 0
                · exact .inl (by rw [h0]; rfl)
                · obtain ⟨t', rfl⟩ : ∃ t', t = t' + 1 := ⟨t - 1, by omega⟩
                  refine .inr ⟨B.take t', B[t']!, take_at B t' (by omega), ?_⟩
                  rw [g4 (i - 1) (by omega) (by omega)] at h1
                  rwa [show i - 1 - m = t' by omega] at h1
            · rcases HI.out.2 with h1 | h1
              · exact .inl (List.drop_eq_nil_of_le (by omega))
              · by_cases h0 : i = b
                · exact .inl (List.drop_eq_nil_of_le (by omega))
                · refine .inr ⟨B[t]!, B.drop (t + 1), cut_at B t (by omega), ?_⟩
                  rw [g4 i (by omega) (by omega)] at h1
                  rwa [← ht] at h1
end Go.Proofs.Yteccpmmedpkddaa
namespace Go.Proofs.Yteccpmmedpkddaa
open Go.Shelf Go.RowKit Go.Lib Go.Sort
variable {P : Program} {k : Nat} {α : Type} [Inhabited α]

set_option maxHeartbeats 8000000 in
set_option maxRecDepth 1000000 in
theorem symMerge_last (T : StT P k) (F2 : P.funcs[78]? = some Try.f78) (enc : α → List Value) (cf : α → α → Int) (Rr : α → α → Bool) (hO : SWO Rr) (g : Nat) (cb : Array Value) (blk off cap : Nat) (d0 d : Array α) (w0 w : World)
    (eg : ∀ args w, (callFunc g args).run P w = .ok (.enter g args) w) (hcmp : CmpLays P g cb enc k cf blk off d0.size w0)
    (R : RowK enc k w0 blk off d0) (hs : d0.size = d.size) (S : SWK enc k w0 blk off d w) (hsz : d.size < 2305843009213693952)
    (pre A : List α) (yb : α) (post : List α) (hd : d.toList = pre ++ (A ++ (yb :: post))) (hA : 1 < A.length) (hsA : Srt Rr A) (hx : ∀ x ∈ A, ltOf cf yb x = Rr yb x)
    (n : Nat) (hn : n = d.size) {x y z : Int} (hx1 : x = (pre.length : Nat)) (hy : y = (pre.length + A.length : Nat)) (hz : z = (pre.length + A.length + 1 : Nat)) :
    Calls P 78 #[.slice (some ⟨blk, off, none⟩) n cap, .int .i64 x, .int .i64 y, .int .i64 z, .func (.func g) #[] cb] w fun e w' =>
      e = .returned (.tuple #[]) ∧ ∃ (C : List α) (d' : Array α), d'.size = d.size ∧ C.Perm (A ++ [yb]) ∧ Srt Rr C ∧ d'.toList = pre ++ (C ++ post) ∧ SWK enc k w0 blk off d' w' := by
  have mixed := T.mixed; have t0 := T.t0; have a0 := T.a0; have z0 := T.z0; have v0 := T.v0; have t3 := T.t3; have a3 := T.a3; have z3 := T.z3; have v3 := T.v3; have t4 := T.t4; have a4 := T.a4; have z4 := T.z4; have v4 := T.v4; have t22 := T.t22; have a22 := T.a22; have z22 := T.z22; have v22 := T.v22; have t25 := T.t25; have a25 := T.a25; have z25 := T.z25; have v25 := T.v25
  have t39 := T.t39; have a39 := T.a39; have z39 := T.z39; have v39 := T.v39
  have aE := T.aE; have zE := T.zE
  have S0 : Aside (SWK enc k w0 blk off d w) := S
  have HC : Aside _ := hcmp
  have hdl : d.size = pre.length + A.length + 1 + post.length := by
    have := congrArg List.length hd
    simp at this; omega
  have HD : Hid _ := hd
  have HO : Aside _ := And.intro hsA hx
  clear S hd hcmp hsA hx
  obtain ⟨a, ha⟩ : ∃ a, a = pre.length := ⟨_, rfl⟩
  obtain ⟨m, hm⟩ : ∃ m, m = a + A.length := ⟨_, rfl⟩
  obtain ⟨b, hb⟩ : ∃ b, b = m + 1 := ⟨_, rfl⟩
  rw [← ha] at hx1 hy hz hdl
  rw [← hm] at hy hz hdl
  rw [← hb] at hz hdl
  have hbd : b ≤ d.size := by omega
  have hmb : a + 1 < m := by omega
  have ha1 : d[m]! = yb := by
    have := arr_at (d := d) (p := pre ++ A) (q := yb :: post) (by rw [HD.out]; simp) 0 (by simp)
    rw [List.length_append, ← ha, ← hm] at this; simpa using this
  have hb1 : ∀ t, a ≤ t → t < m → d[t]! = A[t - a]! := fun t ht1 ht2 => by
    have := arr_at (d := d) (p := pre) (q := A ++ (yb :: post)) HD.out (t - a) (by simp; omega)
    rw [← ha, show a + (t - a) = t by omega] at this
    rw [this, getElem!_pos _ _ (by simp; omega), getElem!_pos _ _ (by omega), List.getElem_append_left (by omega)]
  have hxd : ∀ t, a ≤ t → t < m → ltOf cf yb d[t]! = Rr yb d[t]! := fun t ht1 ht2 => by
    refine HO.out.2 _ ?_
    rw [hb1 t ht1 ht2, getElem!_pos _ _ (by omega)]
    exact List.getElem_mem _
  have HX : Aside _ := hxd
  have HAB : Aside _ := And.intro ha (And.intro hm (And.intro ha1 hb1))
  subst hx1 hy hz hn
  have hm1 : b ≤ m + 1 := by omega
  have hm2 : m + 1 ≤ b := by omega
  have hmz : (b : Int) - (m : Int) = 1 := by omega
  have hmz2 : ¬ (m : Int) - (a : Int) = 1 := by omega
  have hmz3 : ((m : Int) - (a : Int) == 1) = false := beq_eq_false_iff_ne.2 hmz2
  have hmz4 : ((b : Int) - (m : Int) == 1) = true := beq_iff_eq.2 hmz
  clear ha hm hdl ha1 hb1 hxd hb
  go_enter F2, Try.ntmps78
  go_wp2
  go_loopg [14, 15] (m - a) (fun kx s10 s11 wr => ∃ (i j : Nat), s10 = .int .i64 i ∧ s11 = .int .i64 j ∧ a ≤ i ∧ i ≤ j ∧ j ≤ m ∧ j - i ≤ kx ∧
    Aside ((i = a ∨ Rr yb d[i - 1]! = false) ∧ (j = m ∨ Rr yb d[j]! = true)) ∧ Aside (SWK enc k w0 blk off d wr))
  case atStart => exact ⟨a, m, rfl, rfl, by omega, by omega, by omega, Nat.le_refl _, ⟨.inl rfl, .inl rfl⟩, S0⟩
  case round =>
    clear S0
    obtain ⟨i, j, rfl, rfl, hmi, hij, hjb, hkx, HI, S1⟩ := hrel
    by_cases hlt : i < j
    · obtain ⟨h, hh⟩ : ∃ h, h = (i + j) / 2 := ⟨_, rfl⟩
      have hltz : (i : Int) < (j : Int) := by omega
      have hz : ((i : Int) + (j : Int)) / 2 = (h : Int) := by omega
      have hih : i ≤ h := by omega
      have hhj : h < j := by omega
      clear hh
      have ea112 : ((h : Int)).toNat = h := by omega
      have pa112 : (0 : Int) ≤ (h : Int) := by omega
      have ba112 : (h : Int) < (d.size : Int) := by omega
      have ra112 : IntKind.i64.wrap ((h : Int)) = (h : Int) := by rw [IntKind.wrap_i64]; omega
      have ec112 : ((m : Int)).toNat = m := by omega
      have pc112 : (0 : Int) ≤ (m : Int) := by omega
      have bc112 : (m : Int) < (d.size : Int) := by omega
      have rc112 : IntKind.i64.wrap ((m : Int)) = (m : Int) := by rw [IntKind.wrap_i64]; omega
      obtain ⟨x112, hx112⟩ : ∃ x, x = d[h]! := ⟨_, rfl⟩
      have l112a := S1.out.ld R (by omega) P h (by omega)
      have l112b := S1.out.ld R (by omega) P m (by omega)
      rw [← hx112] at l112a
      rw [HAB.out.2.2.1] at l112b
      have hc112 := S1.out.cmp HC.out (by omega) yb x112
      have HX1 : Aside (ltOf cf yb x112 = Rr yb x112) := by show _ = _; rw [hx112]; exact HX.out h (by omega) (by omega)
      have HX2 : Aside (x112 = d[h]!) := hx112
      clear hx112
      cases hlv : ltOf cf yb x112 with
      | false =>
        have hv112 : ¬ cf yb x112 < 0 := of_decide_eq_false hlv
        have hd112 : decide (cf yb x112 < 0) = false := decide_eq_false hv112
        have HL : Hid _ := hlv
        clear hlv
        go_wp2_with fail
        go_quiet_grown (first | (go_at_fn g; refine Calls.grown_of (hc112 _ _)))
        have S2 : Aside (SWK enc k w0 blk off d (grow (wr.drewN nq) osq)) := S1.out.grown nq osq
        clear l112a l112b hc112 S1
        generalize grow (wr.drewN nq) osq = wu2 at S2 ⊢
        clear nq osq
        go_wp2
        go_roundg (j - (h + 1))
        case measure => omega
        case rel => exact ⟨h + 1, j, by go_num, rfl, by omega, by omega, by omega, Nat.le_refl _, ⟨.inr (by rw [Nat.add_sub_cancel, ← HX2.out, ← HX1.out]; exact HL.out), HI.out.2⟩, S2⟩
      | true =>
        have hv112 : cf yb x112 < 0 := of_decide_eq_true hlv
        have hd112 : decide (cf yb x112 < 0) = true := decide_eq_true hv112
        have HL : Hid _ := hlv
        clear hlv
        go_wp2_with fail
        go_quiet_grown (first | (go_at_fn g; refine Calls.grown_of (hc112 _ _)))
        have S2 : Aside (SWK enc k w0 blk off d (grow (wr.drewN nq) osq)) := S1.out.grown nq osq
        clear l112a l112b hc112 S1
        generalize grow (wr.drewN nq) osq = wu2 at S2 ⊢
        clear nq osq
        go_wp2
        go_roundg (h - i)
        case measure => omega
        case rel => exact ⟨i, h, rfl, rfl, by omega, by omega, by omega, Nat.le_refl _, ⟨HI.out.1, .inr (by rw [← HX2.out, ← HX1.out]; exact HL.out)⟩, S2⟩
    · obtain rfl : i = j := by omega
      have hltz : ¬ (i : Int) < (i : Int) := by omega
      go_wp2
      go_loopg [17] (m - i) (fun kx s13 wr => ∃ (K : Nat) (dk : Array α), s13 = .int .i64 (K : Int) ∧ i ≤ K ∧ K ≤ m ∧ K - i ≤ kx ∧ dk.size = d.size ∧
        Aside (dk.toList = pre ++ (A.take (K - a) ++ (yb :: (A.drop (K - a) ++ post)))) ∧ Aside (SWK enc k w0 blk off dk wr))
      case atStart => exact ⟨m, d, rfl, by omega, by omega, by omega, rfl, by
        show _ = _
        rw [HD.out, List.take_of_length_le (by have := HAB.out.2.1; omega), List.drop_eq_nil_of_le (by have := HAB.out.2.1; omega)]; simp, S1⟩
      case round =>
        clear S1
        obtain ⟨K, dk, rfl, hiK, hKm, hkx2, hds, HL, S1⟩ := hrel
        by_cases htl : i < K
        · obtain ⟨t, rfl⟩ : ∃ t, K = t + 1 := ⟨K - 1, by omega⟩
          have hltz : (i : Int) < (t : Int) + 1 := by omega
          have ea44 : ((t : Int) + 1).toNat = t + 1 := by omega
          have pa44 : (0 : Int) ≤ (t : Int) + 1 := by omega
          have ba44 : (t : Int) + 1 < (d.size : Int) := by omega
          have ra44 : IntKind.i64.wrap ((t : Int)) = (t : Int) := by rw [IntKind.wrap_i64]; omega
          have ba45 : (t : Int) < (d.size : Int) := by omega
          go_wp2_with fail
          have S2 : Aside (SWK enc k w0 blk off (swp dk (t + 1) t) ((wr.drew.setCells blk (off + (t + 1) * k) (enc dk[t]!)).setCells blk (off + t * k) (enc dk[t + 1]!))) := S1.out.swapped R (t + 1) t (by omega) (by omega)
          have l44a := S1.out.ld1 R (by omega) P (t + 1) (by omega)
          have l44b := S1.out.ld1 R (by omega) P t (by omega)
          have s44a := S1.out.st1 R (by omega) P (t + 1) (by omega) dk[t]!
          have s44b := S1.out.st2 R (by omega) P (t + 1) t (by omega) (by omega) dk[t]! dk[t + 1]!
          have n44a : (enc dk[t + 1]!).length = k := R.hk _
          have n44b : (enc dk[t]!).length = k := R.hk _
          generalize enc dk[t + 1]! = cI44 at S2 l44a s44b n44a
          generalize enc dk[t]! = cJ44 at S2 l44b s44a s44b n44b
          clear S1
          go_big_region_o
          clear l44a l44b s44a s44b
          generalize (wr.drew.setCells blk (off + (t + 1) * k) cJ44).setCells blk (off + t * k) cI44 = w2 at S2 ⊢
          go_wp2
          go_roundg (t - i)
          case measure => omega
          case rel =>
            refine ⟨t, swp dk (t + 1) t, by go_num, by omega, by omega, Nat.le_refl _, by rw [size_swp]; exact hds, ?_, S2⟩
            obtain ⟨g1, g2, g3, g4⟩ := HAB.out
            have htA : t - a < A.length := by omega
            have e1 : t + 1 - a = (t - a) + 1 := by omega
            have hsw := swp_list' (d := dk) (p := pre ++ A.take (t - a)) (q := []) (r := A.drop (t - a + 1) ++ post) (x := A[t - a]!) (y := yb) (i := t + 1) (j := t) (by rw [HL.out, e1, take_at A _ htA]; simp) (by simp; omega) (by simp; omega)
            show _ = _
            rw [hsw, cut_at A (t - a) htA]; simp
        · have hltz : ¬ (i : Int) < (K : Int) := by omega
          go_wp2
          (try simp only [Exit.inBlock, Exit.then]); refine bodyPost_ret (results_none rfl _ _ _) rfl ?_
          obtain ⟨g1, g2, g3, g4⟩ := HAB.out
          obtain rfl : K = i := by omega
          refine ⟨rfl, A.take (K - a) ++ yb :: A.drop (K - a), dk, hds, ?_, ?_, by rw [HL.out]; simp, S1.out⟩
          · refine (List.perm_middle.trans ?_).trans (List.perm_append_singleton yb A).symm
            rw [List.take_append_drop]
          · refine merge_one_right hO (by rw [List.take_append_drop]; exact HO.out.1) ?_ ?_
            · rcases HI.out.1 with h1 | h1
              · exact .inl (by rw [h1, Nat.sub_self]; rfl)
              · by_cases h0 : K = a
                · exact .inl (by rw [h0, Nat.sub_self]; rfl)
                · obtain ⟨t', ht'⟩ : ∃ t', K - a = t' + 1 := ⟨K - a - 1, by omega⟩
                  refine .inr ⟨A.take t', A[t']!, by rw [ht']; exact take_at A t' (by omega), ?_⟩
                  rw [g4 (K - 1) (by omega) (by omega)] at h1
                  rwa [show K - 1 - a = t' by omega] at h1
            · rcases HI.out.2 with h1 | h1
              · exact .inl (List.drop_eq_nil_of_le (by omega))
              · by_cases h0 : K = m
                · exact .inl (List.drop_eq_nil_of_le (by omega))
                · refine .inr ⟨A[K - a]!, A.drop (K - a + 1), cut_at A (K - a) (by omega), ?_⟩
                  rwa [g4 K (by omega) (by omega)] at h1
end Go.Proofs.Yteccpmmedpkddaa
