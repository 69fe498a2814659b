/-
  run: workers go on as picks say, and then one behind the other (printed by genrun.py).
-/
import Derived.Test.YtpgdpddmgljpmaaD13
namespace Go.Proofs.Ytpgdpddmgljpmaa
open Go.RowKit
variable {w : World}

/-- What holds beside the deque, however the deque goes on. -/
def Steady (n0 : Nat) (J : Dq → (Nat → Prop) → World → Prop) : Prop := ∀ S fp fp' W W', J S fp W → Turn fp W W' → Below n0 W W' → (∀ k, fp k → k < W.heap.size) → (∀ k, fp' k → fp k ∨ W.heap.size ≤ k) → J S fp' W'
/-- Behind a worker's access the function that is called says yes. -/
def Each (g : Nat) (ar : Int → Array Value) (w0 : World) (d : Nat) (J : Dq → (Nat → Prop) → World → Prop) : Prop :=
  ∀ (S : Dq) (fp : Nat → Prop) (W : World) (n : Int), Good S → Good (S.stepN n) → S.hs.length ≤ 64 → S.count ≤ 200000 → (S.doneN n = true ∨ ∃ i : Nat, n = i ∧ Went S i (S.stepN n)) → -1 ≤ n → n ≤ 64 → Below w0.heap.size w0 W → Mach W w0.heap.size d (S.stepN n) fp → J S fp W →
    Calls Try.prog g (ar n) W fun e W' => e = .returned (.bool true) ∧ ∃ fp', Mach W' w0.heap.size d (S.stepN n) fp' ∧ J (S.stepN n) fp' W' ∧ Below w0.heap.size w0 W'
structure RunI (w0 : World) (d : Nat) (S : Dq) (J : Dq → (Nat → Prop) → World → Prop) (W : World) (S' : Dq) (fp' : Nat → Prop) (q : Nat) : Prop where
  m : Mach W w0.heap.size d S' fp'
  g : Good S'
  j : J S' fp' W
  l : S'.hs.length = S.hs.length
  l64 : S.hs.length ≤ 64
  o : ∀ j : Nat, Option.map Hd.ops S'.hs[j]? = Option.map Hd.ops S.hs[j]?
  few : ∀ x ∈ S.hs, x.ops.length ≤ 120
  b : Below w0.heap.size w0 W
  c : S'.count ≤ q
  room : S'.pl.length = S.pl.length
def RunPost (w0 : World) (d : Nat) (S : Dq) (J : Dq → (Nat → Prop) → World → Prop) (e : Ending) (w' : World) : Prop :=
  e = .returned (.bool true) ∧ ∃ S' fp', RunI w0 d S J w' S' fp' 100000 ∧ ∀ j : Nat, j < S.hs.length → S'.doneN j = true
variable {J : Dq → (Nat → Prop) → World → Prop} {w0 W : World} {d q : Nat} {S S' : Dq} {fp fp' : Nat → Prop}
theorem RunI.more {q' : Nat} (h : RunI w0 d S J W S' fp' q) (hq : q ≤ q') : RunI w0 d S J W S' fp' q' := { h with c := by have := h.c; omega }
theorem RunI.start (HM : Mach w w0.heap.size d S fp) (HG : Good S) (HJ : J S fp w) (hlen : S.hs.length ≤ 64) (hc : S.count ≤ 1000) (hb : Below w0.heap.size w0 w) (hops : ∀ x ∈ S.hs, x.ops.length ≤ 120) : RunI w0 d S J w S fp 1000 :=
  ⟨HM, HG, HJ, rfl, hlen, fun _ => rfl, hops, hb, hc, rfl⟩
theorem RunI.drewN (hJ : Steady w0.heap.size J) (h : RunI w0 d S J W S' fp' q) (n : Nat) : RunI w0 d S J (W.drewN n) S' fp' q := by
  obtain ⟨P, c, hsv, hb, sv, wv, h1, h2, h3⟩ := h.m
  exact { h with m := h.m.drewN n, j := hJ _ _ _ _ _ h.j ((Turn.refl fp' W).drewN n) (below_drewN (Below.refl _ _) n) h3 (fun _ h => .inl h), b := below_drewN h.b n }
theorem RunI.ops (h : RunI w0 d S J W S' fp' q) (i : Nat) (hi : i < S'.hs.length) : S'.hs[i].ops.length ≤ 120 := by
  have h1 := h.o i
  have hi2 : i < S.hs.length := by rw [← h.l]; exact hi
  rw [List.getElem?_eq_getElem hi, List.getElem?_eq_getElem hi2] at h1
  simp at h1
  rw [h1]; exact h.few _ (List.getElem_mem hi2)
theorem at_in (H : Good S) (i : Nat) (hi : i < S.hs.length) : 0 ≤ S.hs[i].at_ ∧ S.hs[i].at_ ≤ 3 ∧ (S.hs[i].at_ ≠ 0 → S.hs[i].said.length < S.hs[i].ops.length) := by
  obtain ⟨L, p, x0, th, H⟩ := H
  have hs := H.hs
  cases i with
  | zero =>
    have e : S.hs[0] = x0 := by simp [hs]
    rw [e]
    rcases H.own with ⟨ha, _, _⟩ | ⟨o, ho, hcase⟩
    · exact ⟨by omega, by omega, fun h => absurd ha h⟩
    · have := (List.getElem?_eq_some_iff.1 ho).1
      rcases hcase with ⟨_, _, _, _, _, h | ⟨h, _⟩⟩ | ⟨_, _, _, ⟨h, _⟩ | ⟨h, _⟩ | ⟨h, _⟩⟩ <;> exact ⟨by omega, by omega, fun _ => this⟩
  | succ k =>
    have hk : k < th.length := by rw [hs] at hi; simpa using hi
    have e : S.hs[k + 1] = th[k] := by simp [hs]
    rw [e]
    have h := H.thi th[k] (List.getElem_mem hk)
    exact ⟨h.a0, h.a3, h.op⟩
theorem rem_nonneg (H : Good S) (_ : S.count ≤ 1000000) (i : Nat) : 0 ≤ rem S i := by
  unfold rem
  cases hx : S.hs[i]? with
  | none => exact Int.le_refl _
  | some x =>
    obtain ⟨hi, rfl⟩ := List.getElem?_eq_some_iff.1 hx
    have h := at_in H i hi
    obtain ⟨L, p, x0, th, H⟩ := H
    have h2 := H.len S.hs[i] (List.getElem_mem hi)
    dsimp only
    by_cases h0 : S.hs[i].at_ = 0
    · omega
    · have := h.2.2 h0; omega
theorem RunI.rem (h : RunI w0 d S J W S' fp' q) (i : Nat) : rem S' i ≤ 480 - (0 : Nat) := by
  unfold Go.Proofs.Ytpgdpddmgljpmaa.rem
  cases hx : S'.hs[i]? with
  | none => simp
  | some x =>
    obtain ⟨hi, rfl⟩ := List.getElem?_eq_some_iff.1 hx
    have h1 := at_in h.g i hi
    have h2 := h.ops i hi
    dsimp only
    omega
theorem went {q : Nat} {k : Nat} (h : RunI w0 d S J W S' fp' q) (hq : q ≤ 100000) (hd : S'.doneN (k : Int) = false) : Went S' k (S'.stepN k) := by
  obtain ⟨i, e, hi, hne⟩ := doneN_false hd
  obtain rfl : k = i := by omega
  rw [stepN_not hd]
  exact h.g.step k hi hne (by have := h.c; omega)
theorem went_done {k : Nat} (h : Went S k S') (j : Nat) (hj : j ≠ k) (hd : S.doneN (j : Int) = true) : S'.doneN (j : Int) = true := by
  unfold Dq.doneN at hd ⊢
  rw [h.len, Int.toNat_natCast] at *
  rw [h.other j hj]; exact hd
theorem go_on {g : Nat} {ar : Int → Array Value} (hJ : Steady w0.heap.size J) (hE : Each g ar w0 d J) (h : RunI w0 d S J W S' fp' q) (hq : q ≤ 100000) (n : Int) (hn : -1 ≤ n) (hn2 : n ≤ 64) :
    Calls Try.prog 15 #[.pointer (some ⟨d, 0, none⟩), .int .i64 n] W fun e W' => e = .returned (.tuple #[]) ∧
      Calls Try.prog g (ar n) W' fun e W2 => e = .returned (.bool true) ∧ ∃ fp2, RunI w0 d S J W2 (S'.stepN n) fp2 (q + 1) := by
  have hl : S'.hs.length ≤ 64 := by rw [h.l]; exact h.l64
  have hc := h.c
  obtain ⟨P, c, hsv, hb, sv, wv, h1, h2, h3⟩ := h.m
  refine (mach_step h.m h.g hl (by omega) n).mono ?_
  rintro e w2 ⟨he, fp2, k1, k2, k3, k4⟩
  refine ⟨he, ?_⟩
  have hb2 : Below w0.heap.size w0 w2 := h.b.trans k4
  have key : Good (S'.stepN n) ∧ (S'.stepN n).hs.length = S'.hs.length ∧ (∀ j : Nat, Option.map Hd.ops (S'.stepN n).hs[j]? = Option.map Hd.ops S'.hs[j]?) ∧ (S'.stepN n).count ≤ S'.count + 1 ∧ (S'.stepN n).pl.length = S'.pl.length ∧ (S'.doneN n = true ∨ ∃ i : Nat, n = i ∧ Went S' i (S'.stepN n)) := by
    cases hd : S'.doneN n with
    | true => rw [stepN_done hd]; exact ⟨h.g, rfl, fun _ => rfl, by omega, rfl, .inl rfl⟩
    | false =>
      obtain ⟨i, rfl, _⟩ := doneN_false hd
      have := went h hq hd
      exact ⟨this.good, this.len, this.ops, by rw [this.cnt]; omega, this.room, .inr ⟨i, rfl, this⟩⟩
  refine (hE S' fp2 w2 n h.g key.1 hl (by omega) key.2.2.2.2.2 hn hn2 hb2 k1 (hJ _ _ _ _ _ h.j k3 k4 h3 k2)).mono ?_
  rintro e w3 ⟨he, fp3, m1, m2, m3⟩
  exact ⟨he, fp3, m1, key.1, m2, key.2.1.trans h.l, h.l64, fun j => (key.2.2.1 j).trans (h.o j), h.few, m3, by have := key.2.2.2.1; omega, key.2.2.2.2.1.trans h.room⟩


set_option maxRecDepth 100000 in
set_option maxHeartbeats 4000000 in
theorem run30_any {J : Dq → (Nat → Prop) → World → Prop} {w0 : World} {d : Nat} (hJ : Steady w0.heap.size J) (hE : Each 30 (fun n => #[.int .i64 n]) w0 d J) {S : Dq} {fp : Nat → Prop} (HM : Mach w w0.heap.size d S fp) (HG : Good S) (HJ : J S fp w) (hlen : S.hs.length ≤ 64) (hops : ∀ x ∈ S.hs, x.ops.length ≤ 120) (hc : S.count ≤ 1000) (hb : Below w0.heap.size w0 w)
    (p : Option Addr) (c : Nat) (picks : List Nat) (hl : picks.length ≤ 3000) (hu : ∀ n ∈ picks, n ≤ 255) (hr : Row w0 p (picks.map (fun n : Nat => .int .u8 n))) :
    Calls Try.prog 11 #[.pointer (some ⟨d, 0, none⟩), .slice p picks.length c, .func (.func 30) #[] #[]] w (RunPost w0 d S J) := by
  have HI0 := hid (RunI.start HM HG HJ hlen hc hb hops)
  have HU := hid hu
  have HGO := hid (fun W S' fp' q (n : Int) (hn : -1 ≤ n) (hn2 : n ≤ 64) (h : RunI w0 d S J W S' fp' q) (hq : q ≤ 100000) => go_on hJ hE h hq n hn hn2)
  have HJ' := hid hJ
  have HLN : Hid (S.hs.length = S.hs.length) := rfl
  have h0 := HG.len
  clear HM HG HJ hops hc hb hu hJ hE
  obtain ⟨n, hn⟩ : ∃ n : Nat, n = S.hs.length := ⟨_, rfl⟩
  have HN := hid hn
  rw [← hn] at hlen h0
  clear hn HLN
  go_enter Try.func11, Try.ntmps11
  go_wp2
  go_loopw [13] (fun i W => ∃ (k : Nat) (S' : Dq) (fp' : Nat → Prop), k ≤ picks.length ∧ i = .int .i64 k ∧ RunI w0 d S J W S' fp' (1000 + k)) (fun i _ => picks.length - (intOf i).toNat)
  case atStart => exact ⟨0, S, fp, Nat.zero_le _, rfl, HI0.out⟩
  case round =>
    obtain ⟨k, S1, fp1, hk, rfl, HR⟩ := hrel
    have HRR := hid HR
    clear HR HI0
    have HWK := hid (mach_workers HRR.out.m)
    rw [HRR.out.l, ← HN.out] at HWK
    by_cases hlt : k < picks.length
    · obtain ⟨b, o, rfl, _, hcell⟩ := (hr.below HRR.out.b).at (by simp; omega)
      have hck := hcell k (by simpa using hlt)
      simp only [List.getElem_map] at hck
      have hx := HU.out _ (List.getElem_mem hlt)
      have hkI : (k : Int) < picks.length := by omega
      clear hcell
      generalize picks[k] = x at *
      obtain ⟨t, ht⟩ : ∃ t : Int, (x : Int).tmod ((n : Int) + 1) = t := ⟨_, rfl⟩
      have hn1 : ¬ ((n : Int) + 1) = 0 := by omega
      have ht0 : 0 ≤ t := by rw [← ht]; exact Int.tmod_nonneg _ (by omega)
      have ht1 : t < (n : Int) + 1 := by rw [← ht]; exact Int.tmod_lt_of_pos _ (by omega)
      have hn2 : (((n : Int) + 1) == 0) = false := by rw [beq_eq_false_iff_ne]; omega
      have HST := hid (HGO.out _ _ _ _ t (by omega) (by omega) HRR.out (by omega))
      go_wp2_with (first
        | (go_at_call 13; refine HWK.out.mono ?_; rintro e w2 ⟨rfl, hw2⟩; rw [hw2]; clear hw2)
        | (go_at_call 15; refine HST.out.mono ?_; rintro e w2 ⟨rfl, hcl⟩; have HCL := hid hcl; clear hcl)
        | (go_at_call 30; refine HCL.out.mono ?_; rintro e w3 ⟨rfl, hri⟩; have HRI := hid hri; clear hri))
      go_roundw
      case rel =>
        obtain ⟨fp3, h3⟩ := HRI.out
        exact ⟨k + 1, _, fp3, by omega, by go_num, h3.more (by omega)⟩
      case measure => simp [intOf]; omega
    · obtain rfl : k = picks.length := by omega
      clear hk
      have HR2 := hid (HRR.out.more (q' := 4000) (by omega))
      go_wp2_with (go_at_call 13; refine HWK.out.mono ?_; rintro e w2 ⟨rfl, hw2⟩; rw [hw2]; clear hw2)
      clear HRR HWK
      obtain ⟨wo, rfl⟩ : ∃ wo : World, wo = wr := ⟨_, rfl⟩
      go_loopw [33] (fun i W => ∃ (k : Nat) (S' : Dq) (fp' : Nat → Prop), k ≤ n ∧ i = .int .i64 k ∧ (∀ j : Nat, j < k → S'.doneN j = true) ∧ RunI w0 d S J W S' fp' (4000 + 600 * k)) (fun i _ => n - (intOf i).toNat)
      case atStart => exact ⟨0, S1, fp1, Nat.zero_le _, rfl, fun j h => absurd h (Nat.not_lt_zero _), HR2.out⟩
      case round =>
        obtain ⟨k, S2, fp2, hk, rfl, hdn, HR⟩ := hrel
        have HRR := hid HR
        have HDN := hid hdn
        clear HR hdn HR2
        by_cases hlt : k < n
        · have hkI : (k : Int) < n := by omega
          have hk64 : (k : Int) ≤ 64 := by omega
          go_wp2
          obtain ⟨wo2, rfl⟩ : ∃ wo : World, wo = wr := ⟨_, rfl⟩
          go_loopw [36] (fun i W => ∃ (m : Nat) (S' : Dq) (fp' : Nat → Prop), m ≤ 600 ∧ i = .int .i64 m ∧ (∀ j : Nat, j < k → S'.doneN j = true) ∧ rem S' k ≤ 480 - m ∧ RunI w0 d S J W S' fp' (4000 + 600 * k + m)) (fun i _ => 600 - (intOf i).toNat)
          case atStart => exact ⟨0, S2, fp2, Nat.zero_le _, rfl, HDN.out, HRR.out.rem k, HRR.out⟩
          case round =>
            obtain ⟨m, S3, fp3, hm, rfl, hdn3, hrem, HR⟩ := hrel
            have hr0 := rem_nonneg HR.g (by have := HR.c; omega) k
            have hm2 : m < 600 := by omega
            have HRR3 := hid HR
            have HDN3 := hid hdn3
            have HREM := hid hrem
            have HMD : Hid (Calls Try.prog 16 #[.pointer (some ⟨d, 0, none⟩), .int .i64 (k : Int)] wr fun e w' => e = .returned (.bool (S3.doneN k)) ∧ ∃ q, w' = wr.drewN q) := mach_done HRR3.out.m (by rw [HRR3.out.l, ← HN.out]; exact hlen) (k : Int)
            have HME : Hid (∀ q, Calls Try.prog 16 #[.pointer (some ⟨d, 0, none⟩), .int .i64 (k : Int)] (wr.drewN q) fun e w' => e = .returned (.bool (S3.doneN k)) ∧ ∃ q2, w' = (wr.drewN q).drewN q2) := fun q => mach_done (HRR3.out.m.drewN q) (by rw [HRR3.out.l, ← HN.out]; exact hlen) (k : Int)
            clear HR hdn3 hrem hr0 HRR HDN
            cases hd : S3.doneN k with
            | true =>
              rw [hd] at HMD
              simp only [hd] at HME
              have HD := hid hd
              clear hd
              go_wp2_with (first
                | (go_at_call 16; ((with_reducible refine HMD.out.mono ?_); rintro e w2 ⟨rfl, q, hw2⟩; rw [hw2]; clear hw2))
                | (go_at_call 16; ((with_reducible refine (HME.out _).mono ?_); rintro e w2 ⟨rfl, q2, hw2⟩; rw [hw2]; clear hw2)))
              go_roundw
              case rel =>
                refine ⟨k + 1, S3, fp3, by omega, by go_num, fun j hj => ?_, (HRR3.out.drewN HJ'.out (q + q2)).more (by omega)⟩
                by_cases e : j = k
                · subst e; exact HD.out
                · exact HDN3.out j (by omega)
              case measure => simp [intOf]; omega
            | false =>
              rw [hd] at HMD
              simp only [hd] at HME
              have HD := hid hd
              clear hd
              have HST := hid (fun q => HGO.out _ _ _ _ (k : Int) (by omega) (by omega) (HRR3.out.drewN HJ'.out q) (by omega))
              go_wp2_with (first
                | (go_at_call 16; refine HMD.out.mono ?_; rintro e w2 ⟨rfl, q, hw2⟩; rw [hw2]; clear hw2)
                | (go_at_call 15; refine (HST.out q).mono ?_; rintro e w2 ⟨rfl, hcl⟩; have HCL := hid hcl; clear hcl)
                | (go_at_call 30; refine HCL.out.mono ?_; rintro e w3 ⟨rfl, hri⟩; have HRI := hid hri; clear hri))
              go_roundw
              case rel =>
                obtain ⟨fp4, h4⟩ := HRI.out
                have hw := went HRR3.out (by omega) HD.out
                refine ⟨m + 1, _, fp4, by omega, by go_num, fun j hj => ?_, ?_, h4.more (by omega)⟩
                · exact went_done hw j (by omega) (HDN3.out j hj)
                · have := hw.rem; have := HREM.out; omega
              case measure => simp [intOf]; omega
        · obtain rfl : k = n := by omega
          go_wp2
          go_ret
          exact ⟨rfl, S2, fp2, HRR.out.more (by omega), by rw [← HN.out]; exact HDN.out⟩


set_option maxRecDepth 100000 in
set_option maxHeartbeats 4000000 in
theorem run12_any {J : Dq → (Nat → Prop) → World → Prop} {w0 : World} {d : Nat} (hJ : Steady w0.heap.size J) (hE : Each 12 (fun n => #[.int .i64 n]) w0 d J) {S : Dq} {fp : Nat → Prop} (HM : Mach w w0.heap.size d S fp) (HG : Good S) (HJ : J S fp w) (hlen : S.hs.length ≤ 64) (hops : ∀ x ∈ S.hs, x.ops.length ≤ 120) (hc : S.count ≤ 1000) (hb : Below w0.heap.size w0 w)
    (p : Option Addr) (c : Nat) (picks : List Nat) (hl : picks.length ≤ 3000) (hu : ∀ n ∈ picks, n ≤ 255) (hr : Row w0 p (picks.map (fun n : Nat => .int .u8 n))) :
    Calls Try.prog 11 #[.pointer (some ⟨d, 0, none⟩), .slice p picks.length c, .func (.func 12) #[] #[]] w (RunPost w0 d S J) := by
  have HI0 := hid (RunI.start HM HG HJ hlen hc hb hops)
  have HU := hid hu
  have HGO := hid (fun W S' fp' q (n : Int) (hn : -1 ≤ n) (hn2 : n ≤ 64) (h : RunI w0 d S J W S' fp' q) (hq : q ≤ 100000) => go_on hJ hE h hq n hn hn2)
  have HJ' := hid hJ
  have HLN : Hid (S.hs.length = S.hs.length) := rfl
  have h0 := HG.len
  clear HM HG HJ hops hc hb hu hJ hE
  obtain ⟨n, hn⟩ : ∃ n : Nat, n = S.hs.length := ⟨_, rfl⟩
  have HN := hid hn
  rw [← hn] at hlen h0
  clear hn HLN
  go_enter Try.func11, Try.ntmps11
  go_wp2
  go_loopw [13] (fun i W => ∃ (k : Nat) (S' : Dq) (fp' : Nat → Prop), k ≤ picks.length ∧ i = .int .i64 k ∧ RunI w0 d S J W S' fp' (1000 + k)) (fun i _ => picks.length - (intOf i).toNat)
  case atStart => exact ⟨0, S, fp, Nat.zero_le _, rfl, HI0.out⟩
  case round =>
    obtain ⟨k, S1, fp1, hk, rfl, HR⟩ := hrel
    have HRR := hid HR
    clear HR HI0
    have HWK := hid (mach_workers HRR.out.m)
    rw [HRR.out.l, ← HN.out] at HWK
    by_cases hlt : k < picks.length
    · obtain ⟨b, o, rfl, _, hcell⟩ := (hr.below HRR.out.b).at (by simp; omega)
      have hck := hcell k (by simpa using hlt)
      simp only [List.getElem_map] at hck
      have hx := HU.out _ (List.getElem_mem hlt)
      have hkI : (k : Int) < picks.length := by omega
      clear hcell
      generalize picks[k] = x at *
      obtain ⟨t, ht⟩ : ∃ t : Int, (x : Int).tmod ((n : Int) + 1) = t := ⟨_, rfl⟩
      have hn1 : ¬ ((n : Int) + 1) = 0 := by omega
      have ht0 : 0 ≤ t := by rw [← ht]; exact Int.tmod_nonneg _ (by omega)
      have ht1 : t < (n : Int) + 1 := by rw [← ht]; exact Int.tmod_lt_of_pos _ (by omega)
      have hn2 : (((n : Int) + 1) == 0) = false := by rw [beq_eq_false_iff_ne]; omega
      have HST := hid (HGO.out _ _ _ _ t (by omega) (by omega) HRR.out (by omega))
      go_wp2_with (first
        | (go_at_call 13; refine HWK.out.mono ?_; rintro e w2 ⟨rfl, hw2⟩; rw [hw2]; clear hw2)
        | (go_at_call 15; refine HST.out.mono ?_; rintro e w2 ⟨rfl, hcl⟩; have HCL := hid hcl; clear hcl)
        | (go_at_call 12; refine HCL.out.mono ?_; rintro e w3 ⟨rfl, hri⟩; have HRI := hid hri; clear hri))
      go_roundw
      case rel =>
        obtain ⟨fp3, h3⟩ := HRI.out
        exact ⟨k + 1, _, fp3, by omega, by go_num, h3.more (by omega)⟩
      case measure => simp [intOf]; omega
    · obtain rfl : k = picks.length := by omega
      clear hk
      have HR2 := hid (HRR.out.more (q' := 4000) (by omega))
      go_wp2_with (go_at_call 13; refine HWK.out.mono ?_; rintro e w2 ⟨rfl, hw2⟩; rw [hw2]; clear hw2)
      clear HRR HWK
      obtain ⟨wo, rfl⟩ : ∃ wo : World, wo = wr := ⟨_, rfl⟩
      go_loopw [33] (fun i W => ∃ (k : Nat) (S' : Dq) (fp' : Nat → Prop), k ≤ n ∧ i = .int .i64 k ∧ (∀ j : Nat, j < k → S'.doneN j = true) ∧ RunI w0 d S J W S' fp' (4000 + 600 * k)) (fun i _ => n - (intOf i).toNat)
      case atStart => exact ⟨0, S1, fp1, Nat.zero_le _, rfl, fun j h => absurd h (Nat.not_lt_zero _), HR2.out⟩
      case round =>
        obtain ⟨k, S2, fp2, hk, rfl, hdn, HR⟩ := hrel
        have HRR := hid HR
        have HDN := hid hdn
        clear HR hdn HR2
        by_cases hlt : k < n
        · have hkI : (k : Int) < n := by omega
          have hk64 : (k : Int) ≤ 64 := by omega
          go_wp2
          obtain ⟨wo2, rfl⟩ : ∃ wo : World, wo = wr := ⟨_, rfl⟩
          go_loopw [36] (fun i W => ∃ (m : Nat) (S' : Dq) (fp' : Nat → Prop), m ≤ 600 ∧ i = .int .i64 m ∧ (∀ j : Nat, j < k → S'.doneN j = true) ∧ rem S' k ≤ 480 - m ∧ RunI w0 d S J W S' fp' (4000 + 600 * k + m)) (fun i _ => 600 - (intOf i).toNat)
          case atStart => exact ⟨0, S2, fp2, Nat.zero_le _, rfl, HDN.out, HRR.out.rem k, HRR.out⟩
          case round =>
            obtain ⟨m, S3, fp3, hm, rfl, hdn3, hrem, HR⟩ := hrel
            have hr0 := rem_nonneg HR.g (by have := HR.c; omega) k
            have hm2 : m < 600 := by omega
            have HRR3 := hid HR
            have HDN3 := hid hdn3
            have HREM := hid hrem
            have HMD : Hid (Calls Try.prog 16 #[.pointer (some ⟨d, 0, none⟩), .int .i64 (k : Int)] wr fun e w' => e = .returned (.bool (S3.doneN k)) ∧ ∃ q, w' = wr.drewN q) := mach_done HRR3.out.m (by rw [HRR3.out.l, ← HN.out]; exact hlen) (k : Int)
            have HME : Hid (∀ q, Calls Try.prog 16 #[.pointer (some ⟨d, 0, none⟩), .int .i64 (k : Int)] (wr.drewN q) fun e w' => e = .returned (.bool (S3.doneN k)) ∧ ∃ q2, w' = (wr.drewN q).drewN q2) := fun q => mach_done (HRR3.out.m.drewN q) (by rw [HRR3.out.l, ← HN.out]; exact hlen) (k : Int)
            clear HR hdn3 hrem hr0 HRR HDN
            cases hd : S3.doneN k with
            | true =>
              rw [hd] at HMD
              simp only [hd] at HME
              have HD := hid hd
              clear hd
              go_wp2_with (first
                | (go_at_call 16; ((with_reducible refine HMD.out.mono ?_); rintro e w2 ⟨rfl, q, hw2⟩; rw [hw2]; clear hw2))
                | (go_at_call 16; ((with_reducible refine (HME.out _).mono ?_); rintro e w2 ⟨rfl, q2, hw2⟩; rw [hw2]; clear hw2)))
              go_roundw
              case rel =>
                refine ⟨k + 1, S3, fp3, by omega, by go_num, fun j hj => ?_, (HRR3.out.drewN HJ'.out (q + q2)).more (by omega)⟩
                by_cases e : j = k
                · subst e; exact HD.out
                · exact HDN3.out j (by omega)
              case measure => simp [intOf]; omega
            | false =>
              rw [hd] at HMD
              simp only [hd] at HME
              have HD := hid hd
              clear hd
              have HST := hid (fun q => HGO.out _ _ _ _ (k : Int) (by omega) (by omega) (HRR3.out.drewN HJ'.out q) (by omega))
              go_wp2_with (first
                | (go_at_call 16; refine HMD.out.mono ?_; rintro e w2 ⟨rfl, q, hw2⟩; rw [hw2]; clear hw2)
                | (go_at_call 15; refine (HST.out q).mono ?_; rintro e w2 ⟨rfl, hcl⟩; have HCL := hid hcl; clear hcl)
                | (go_at_call 12; refine HCL.out.mono ?_; rintro e w3 ⟨rfl, hri⟩; have HRI := hid hri; clear hri))
              go_roundw
              case rel =>
                obtain ⟨fp4, h4⟩ := HRI.out
                have hw := went HRR3.out (by omega) HD.out
                refine ⟨m + 1, _, fp4, by omega, by go_num, fun j hj => ?_, ?_, h4.more (by omega)⟩
                · exact went_done hw j (by omega) (HDN3.out j hj)
                · have := hw.rem; have := HREM.out; omega
              case measure => simp [intOf]; omega
        · obtain rfl : k = n := by omega
          go_wp2
          go_ret
          exact ⟨rfl, S2, fp2, HRR.out.more (by omega), by rw [← HN.out]; exact HDN.out⟩


set_option maxRecDepth 100000 in
set_option maxHeartbeats 4000000 in
theorem run21_any {rc dc : Nat} {J : Dq → (Nat → Prop) → World → Prop} {w0 : World} {d : Nat} (hJ : Steady w0.heap.size J) (hE : Each 21 (fun n => #[.int .i64 n, .pointer (some ⟨rc, 0, none⟩), .pointer (some ⟨dc, 0, none⟩)]) w0 d J) {S : Dq} {fp : Nat → Prop} (HM : Mach w w0.heap.size d S fp) (HG : Good S) (HJ : J S fp w) (hlen : S.hs.length ≤ 64) (hops : ∀ x ∈ S.hs, x.ops.length ≤ 120) (hc : S.count ≤ 1000) (hb : Below w0.heap.size w0 w)
    (p : Option Addr) (c : Nat) (picks : List Nat) (hl : picks.length ≤ 3000) (hu : ∀ n ∈ picks, n ≤ 255) (hr : Row w0 p (picks.map (fun n : Nat => .int .u8 n))) :
    Calls Try.prog 11 #[.pointer (some ⟨d, 0, none⟩), .slice p picks.length c, .func (.func 21) #[] #[.pointer (some ⟨rc, 0, none⟩), .pointer (some ⟨dc, 0, none⟩)]] w (RunPost w0 d S J) := by
  have HI0 := hid (RunI.start HM HG HJ hlen hc hb hops)
  have HU := hid hu
  have HGO := hid (fun W S' fp' q (n : Int) (hn : -1 ≤ n) (hn2 : n ≤ 64) (h : RunI w0 d S J W S' fp' q) (hq : q ≤ 100000) => go_on hJ hE h hq n hn hn2)
  have HJ' := hid hJ
  have HLN : Hid (S.hs.length = S.hs.length) := rfl
  have h0 := HG.len
  clear HM HG HJ hops hc hb hu hJ hE
  obtain ⟨n, hn⟩ : ∃ n : Nat, n = S.hs.length := ⟨_, rfl⟩
  have HN := hid hn
  rw [← hn] at hlen h0
  clear hn HLN
  go_enter Try.func11, Try.ntmps11
  go_wp2
  go_loopw [13] (fun i W => ∃ (k : Nat) (S' : Dq) (fp' : Nat → Prop), k ≤ picks.length ∧ i = .int .i64 k ∧ RunI w0 d S J W S' fp' (1000 + k)) (fun i _ => picks.length - (intOf i).toNat)
  case atStart => exact ⟨0, S, fp, Nat.zero_le _, rfl, HI0.out⟩
  case round =>
    obtain ⟨k, S1, fp1, hk, rfl, HR⟩ := hrel
    have HRR := hid HR
    clear HR HI0
    have HWK := hid (mach_workers HRR.out.m)
    rw [HRR.out.l, ← HN.out] at HWK
    by_cases hlt : k < picks.length
    · obtain ⟨b, o, rfl, _, hcell⟩ := (hr.below HRR.out.b).at (by simp; omega)
      have hck := hcell k (by simpa using hlt)
      simp only [List.getElem_map] at hck
      have hx := HU.out _ (List.getElem_mem hlt)
      have hkI : (k : Int) < picks.length := by omega
      clear hcell
      generalize picks[k] = x at *
      obtain ⟨t, ht⟩ : ∃ t : Int, (x : Int).tmod ((n : Int) + 1) = t := ⟨_, rfl⟩
      have hn1 : ¬ ((n : Int) + 1) = 0 := by omega
      have ht0 : 0 ≤ t := by rw [← ht]; exact Int.tmod_nonneg _ (by omega)
      have ht1 : t < (n : Int) + 1 := by rw [← ht]; exact Int.tmod_lt_of_pos _ (by omega)
      have hn2 : (((n : Int) + 1) == 0) = false := by rw [beq_eq_false_iff_ne]; omega
      have HST := hid (HGO.out _ _ _ _ t (by omega) (by omega) HRR.out (by omega))
      go_wp2_with (first
        | (go_at_call 13; refine HWK.out.mono ?_; rintro e w2 ⟨rfl, hw2⟩; rw [hw2]; clear hw2)
        | (go_at_call 15; refine HST.out.mono ?_; rintro e w2 ⟨rfl, hcl⟩; have HCL := hid hcl; clear hcl)
        | (go_at_call 21; refine HCL.out.mono ?_; rintro e w3 ⟨rfl, hri⟩; have HRI := hid hri; clear hri))
      go_roundw
      case rel =>
        obtain ⟨fp3, h3⟩ := HRI.out
        exact ⟨k + 1, _, fp3, by omega, by go_num, h3.more (by omega)⟩
      case measure => simp [intOf]; omega
    · obtain rfl : k = picks.length := by omega
      clear hk
      have HR2 := hid (HRR.out.more (q' := 4000) (by omega))
      go_wp2_with (go_at_call 13; refine HWK.out.mono ?_; rintro e w2 ⟨rfl, hw2⟩; rw [hw2]; clear hw2)
      clear HRR HWK
      obtain ⟨wo, rfl⟩ : ∃ wo : World, wo = wr := ⟨_, rfl⟩
      go_loopw [33] (fun i W => ∃ (k : Nat) (S' : Dq) (fp' : Nat → Prop), k ≤ n ∧ i = .int .i64 k ∧ (∀ j : Nat, j < k → S'.doneN j = true) ∧ RunI w0 d S J W S' fp' (4000 + 600 * k)) (fun i _ => n - (intOf i).toNat)
      case atStart => exact ⟨0, S1, fp1, Nat.zero_le _, rfl, fun j h => absurd h (Nat.not_lt_zero _), HR2.out⟩
      case round =>
        obtain ⟨k, S2, fp2, hk, rfl, hdn, HR⟩ := hrel
        have HRR := hid HR
        have HDN := hid hdn
        clear HR hdn HR2
        by_cases hlt : k < n
        · have hkI : (k : Int) < n := by omega
          have hk64 : (k : Int) ≤ 64 := by omega
          go_wp2
          obtain ⟨wo2, rfl⟩ : ∃ wo : World, wo = wr := ⟨_, rfl⟩
          go_loopw [36] (fun i W => ∃ (m : Nat) (S' : Dq) (fp' : Nat → Prop), m ≤ 600 ∧ i = .int .i64 m ∧ (∀ j : Nat, j < k → S'.doneN j = true) ∧ rem S' k ≤ 480 - m ∧ RunI w0 d S J W S' fp' (4000 + 600 * k + m)) (fun i _ => 600 - (intOf i).toNat)
          case atStart => exact ⟨0, S2, fp2, Nat.zero_le _, rfl, HDN.out, HRR.out.rem k, HRR.out⟩
          case round =>
            obtain ⟨m, S3, fp3, hm, rfl, hdn3, hrem, HR⟩ := hrel
            have hr0 := rem_nonneg HR.g (by have := HR.c; omega) k
            have hm2 : m < 600 := by omega
            have HRR3 := hid HR
            have HDN3 := hid hdn3
            have HREM := hid hrem
            have HMD : Hid (Calls Try.prog 16 #[.pointer (some ⟨d, 0, none⟩), .int .i64 (k : Int)] wr fun e w' => e = .returned (.bool (S3.doneN k)) ∧ ∃ q, w' = wr.drewN q) := mach_done HRR3.out.m (by rw [HRR3.out.l, ← HN.out]; exact hlen) (k : Int)
            have HME : Hid (∀ q, Calls Try.prog 16 #[.pointer (some ⟨d, 0, none⟩), .int .i64 (k : Int)] (wr.drewN q) fun e w' => e = .returned (.bool (S3.doneN k)) ∧ ∃ q2, w' = (wr.drewN q).drewN q2) := fun q => mach_done (HRR3.out.m.drewN q) (by rw [HRR3.out.l, ← HN.out]; exact hlen) (k : Int)
            clear HR hdn3 hrem hr0 HRR HDN
            cases hd : S3.doneN k with
            | true =>
              rw [hd] at HMD
              simp only [hd] at HME
              have HD := hid hd
              clear hd
              go_wp2_with (first
                | (go_at_call 16; ((with_reducible refine HMD.out.mono ?_); rintro e w2 ⟨rfl, q, hw2⟩; rw [hw2]; clear hw2))
                | (go_at_call 16; ((with_reducible refine (HME.out _).mono ?_); rintro e w2 ⟨rfl, q2, hw2⟩; rw [hw2]; clear hw2)))
              go_roundw
              case rel =>
                refine ⟨k + 1, S3, fp3, by omega, by go_num, fun j hj => ?_, (HRR3.out.drewN HJ'.out (q + q2)).more (by omega)⟩
                by_cases e : j = k
                · subst e; exact HD.out
                · exact HDN3.out j (by omega)
              case measure => simp [intOf]; omega
            | false =>
              rw [hd] at HMD
              simp only [hd] at HME
              have HD := hid hd
              clear hd
              have HST := hid (fun q => HGO.out _ _ _ _ (k : Int) (by omega) (by omega) (HRR3.out.drewN HJ'.out q) (by omega))
              go_wp2_with (first
                | (go_at_call 16; refine HMD.out.mono ?_; rintro e w2 ⟨rfl, q, hw2⟩; rw [hw2]; clear hw2)
                | (go_at_call 15; refine (HST.out q).mono ?_; rintro e w2 ⟨rfl, hcl⟩; have HCL := hid hcl; clear hcl)
                | (go_at_call 21; refine HCL.out.mono ?_; rintro e w3 ⟨rfl, hri⟩; have HRI := hid hri; clear hri))
              go_roundw
              case rel =>
                obtain ⟨fp4, h4⟩ := HRI.out
                have hw := went HRR3.out (by omega) HD.out
                refine ⟨m + 1, _, fp4, by omega, by go_num, fun j hj => ?_, ?_, h4.more (by omega)⟩
                · exact went_done hw j (by omega) (HDN3.out j hj)
                · have := hw.rem; have := HREM.out; omega
              case measure => simp [intOf]; omega
        · obtain rfl : k = n := by omega
          go_wp2
          go_ret
          exact ⟨rfl, S2, fp2, HRR.out.more (by omega), by rw [← HN.out]; exact HDN.out⟩

end Go.Proofs.Ytpgdpddmgljpmaa
