/-
  The walk of the document's barrier.
-/
import Derived.Test.YthmockfeffikjaaJE9
namespace Go.Proofs.Ythmockfeffikjaa
open Go.RowKit

theorem contains_take_succ {l : List Int} {k : Nat} (h : k < l.length) (v : Int) : (l.take (k + 1)).contains v = ((l.take k).contains v || (v == l[k])) := by
  have e := take_succ l k h
  rw [e, Bool.eq_iff_iff]
  simp only [List.contains_iff_mem, List.mem_append, List.mem_singleton, Bool.or_eq_true, beq_iff_eq]

set_option maxHeartbeats 2000000 in
theorem came_any (x : Ce) (p : Option Addr) (c : Nat) (wk : Int) (w : World) (hsl : SlAt w p c x.came) :
    Calls Try.prog 69 #[x.val p c, i64 wk] w fun e w' => e = .returned (.bool (x.came.contains wk)) ∧ Below w.heap.size w w' := by
  obtain ⟨kind, n, owner, need, came, turns, there⟩ := x
  unfold Ce.val
  dsimp only at hsl ⊢
  obtain ⟨hlc, hcm, _, hrow⟩ := hsl
  unfold maxLen at hcm
  go_enter Try.func69, Try.ntmps69
  go_wp2
  go_loop [5] (fun i => ∃ k : Nat, k ≤ came.length ∧ i = .int .i64 k ∧ (came.take k).contains wk = false) (fun i => came.length - (intOf i).toNat)
  case atStart => exact ⟨0, Nat.zero_le _, rfl, by simp⟩
  case round =>
    obtain ⟨k, hk, rfl, hc⟩ := hrel
    have HC := hid hc
    clear hc
    by_cases hlt : k < came.length
    · obtain ⟨b1, o1, rfl, hb1, hz1⟩ := hrow.at (by simp; omega)
      clear hz1
      have c1 := hrow.cell k (by simpa using hlt)
      simp only [i64s, List.getElem_map] at c1
      have HT := hid (contains_take_succ hlt wk)
      have HM : Hid (came[k] = wk → came.contains wk = true) := fun h => by
        rw [List.contains_iff_mem, ← h]; exact List.getElem_mem hlt
      obtain ⟨v, hv⟩ : ∃ v, v = came[k] := ⟨_, rfl⟩
      rw [← hv] at c1 HT HM
      clear hv
      by_cases hvw : v = wk
      · have e1 : (v == wk) = true := by simpa using hvw
        have HM := hid (HM.out hvw)
        clear hvw HT
        go_wp2
        go_ret
        exact ⟨ret_bool (by have := HM.out; simp at this; simp [this]), (Below.refl _ _).alloc (Nat.le_refl _) _⟩
      · have e1 : (v == wk) = false := by simpa using hvw
        have HT2 : Hid ((came.take (k + 1)).contains wk = false) := by
          rw [Hid, HT.out, HC.out, Bool.false_or]
          simpa using fun h => hvw h.symm
        clear hvw HT HM
        go_wp2
        go_round
        case rel => exact ⟨k + 1, by omega, by go_num, HT2.out⟩
        case measure => simp [intOf]; omega
    · have hkx : k = came.length := by omega
      have HF : Hid (came.contains wk = false) := by have := HC.out; rw [hkx, List.take_length] at this; exact this
      subst hkx
      go_wp2
      go_ret
      exact ⟨ret_bool (by have := HF.out; simp at this; simp [this]), (Below.refl _ _).alloc (Nat.le_refl _) _⟩

theorem SlAt.setL {w0 w : World} {p : Option Addr} {c : Nat} {l : List Int} (h : SlAt w p c l) (h0 : SlAt w0 p c l) (b o : Nat) (v : Value) (hb : w0.heap.size ≤ b) : SlAt (w.setCell ⟨b, o, none⟩ v) p c l :=
  ⟨h.1, h.2.1, h.2.2.1, h.2.2.2.set_lt h0.2.2.2 ⟨b, o, none⟩ v hb⟩
theorem own_store7 {w : World} {base : Nat} {e : TypeId} {size : Nat} {v : Value} {n : Nat} {xs : List Value} (h : w.ownsRow base e size v n xs) (b : Nat) (hne : ∀ g, v.ownBlock = some g → g ≠ b) (v0 v1 v2 v3 v4 v5 v6 : Value) :
    (((((((w.setCell ⟨b, 0, none⟩ v0).setCell ⟨b, 1, none⟩ v1).setCell ⟨b, 2, none⟩ v2).setCell ⟨b, 3, none⟩ v3).setCell ⟨b, 4, none⟩ v4).setCell ⟨b, 5, none⟩ v5).setCell ⟨b, 6, none⟩ v6).ownsRow base e size v n xs := by
  have h0 := own_setO h ⟨b, 0, none⟩ v0 hne
  have h1 := own_setO h0 ⟨b, 1, none⟩ v1 hne
  have h2 := own_setO h1 ⟨b, 2, none⟩ v2 hne
  have h3 := own_setO h2 ⟨b, 3, none⟩ v3 hne
  have h4 := own_setO h3 ⟨b, 4, none⟩ v4 hne
  have h5 := own_setO h4 ⟨b, 5, none⟩ v5 hne
  exact own_setO h5 ⟨b, 6, none⟩ v6 hne

set_option maxHeartbeats 4000000 in
theorem rbarrier_any (x : Ce) (hx : x.kind = 3) (wk : Int) (a : Ac) (p : Option Addr) (c : Nat) (w : World) (hs : SlAt w p c x.came) (ht0 : 0 ≤ x.turns) (ht1 : x.turns ≤ 1152921504606846976) (hl : x.came.length ≤ 64) :
    Calls Try.prog 63 #[x.val p c, i64 wk, a.val] w (CeTellN p c x.came (stepP x wk a).1 [i64 (stepP x wk a).2.1, i64 (stepP x wk a).2.2] w) := by
  obtain ⟨kind, n, owner, need, came, turns, there⟩ := x
  obtain ⟨ak, ac, ao, an⟩ := a
  dsimp only at hx hs ht0 ht1 hl
  subst hx
  unfold Ce.val Ac.val
  dsimp only
  by_cases h6 : ak = 6
  · subst h6
    by_cases ht : turns ≤ ao
    · have HP : Hid (stepP ⟨3, n, owner, need, came, turns, there⟩ wk ⟨6, ac, ao, an⟩ = (⟨3, n, owner, need, came, turns, there⟩, 0, 231)) := by simp [Hid, stepP, ht]
      have e1 : decide (turns ≤ ao) = true := by simpa using ht
      clear ht
      go_enter Try.func63, Try.ntmps63
      go_wp2
      exact bodyPost_ret (v := .tuple #[(Ce.mk 3 n owner need came turns there).val p c, i64 0, i64 231]) (by simp [results, Try.results63, go_sem, Ce.val]) rfl (by rw [HP.out]; exact ⟨p, c, rfl, ((hs.alloc _).alloc _).alloc _, .inl ⟨rfl, rfl, rfl⟩, (((Below.refl _ _).alloc (Nat.le_refl _) _).alloc (by simp) _).alloc (by simp; omega) _⟩)
    · have HP : Hid (stepP ⟨3, n, owner, need, came, turns, there⟩ wk ⟨6, ac, ao, an⟩ = (⟨3, n, owner, need, came, turns, there⟩, turns, 0)) := by simp [Hid, stepP, ht]
      have e1 : decide (turns ≤ ao) = false := by simpa using ht
      clear ht
      go_enter Try.func63, Try.ntmps63
      go_wp2
      exact bodyPost_ret (v := .tuple #[(Ce.mk 3 n owner need came turns there).val p c, i64 turns, i64 0]) (by simp [results, Try.results63, go_sem, Ce.val]) rfl (by rw [HP.out]; exact ⟨p, c, rfl, ((hs.alloc _).alloc _).alloc _, .inl ⟨rfl, rfl, rfl⟩, (((Below.refl _ _).alloc (Nat.le_refl _) _).alloc (by simp) _).alloc (by simp; omega) _⟩)
  · have e6 : (ak == 6) = false := by simpa using h6
    by_cases h5 : ak = 5
    rotate_left
    · have e5 : (ak == 5) = false := by simpa using h5
      have HP : Hid (stepP ⟨3, n, owner, need, came, turns, there⟩ wk ⟨ak, ac, ao, an⟩ = (⟨3, n, owner, need, came, turns, there⟩, 0, 230)) := by simp [Hid, stepP, h5, h6]
      clear h5 h6
      go_enter Try.func63, Try.ntmps63
      go_wp2
      exact bodyPost_ret (v := .tuple #[(Ce.mk 3 n owner need came turns there).val p c, i64 0, i64 230]) (by simp [results, Try.results63, go_sem, Ce.val]) rfl (by rw [HP.out]; exact ⟨p, c, rfl, ((hs.alloc _).alloc _).alloc _, .inl ⟨rfl, rfl, rfl⟩, (((Below.refl _ _).alloc (Nat.le_refl _) _).alloc (by simp) _).alloc (by simp; omega) _⟩)
    subst h5
    clear h6 e6
    obtain ⟨W3, hW3⟩ : ∃ W3, W3 = ((w.alloc (.cells #[i64 3, i64 n, i64 owner, i64 need, .slice p came.length c, i64 turns, .bool there] 30)).alloc (.cells #[i64 5, i64 ac, i64 ao, i64 an] 34)).alloc (.cells #[.int .i64 0, .int .i64 0, .int .i64 0, .int .i64 0, .slice none 0 0, .int .i64 0, .bool false] 30) := ⟨_, rfl⟩
    have HST3 := hid (one_start w ⟨3, n, owner, need, came, turns, there⟩ p c ⟨5, ac, ao, an⟩ W3 hW3)
    have hs3 : SlAt W3 p c came := by rw [hW3]; exact ((hs.alloc _).alloc _).alloc _
    have hb3 : Below w.heap.size w W3 := by rw [hW3]; exact (((Below.refl _ _).alloc (Nat.le_refl _) _).alloc (by simp) _).alloc (by simp; omega) _
    have hz3 : w.heap.size + 3 = W3.heap.size := by rw [hW3]; simp
    have HW3 := hid hW3
    have HZZ := hid hz3
    have hz3 : w.heap.size + 3 ≤ W3.heap.size := by omega
    clear hW3 HZZ
    have HCM := hid (fun w1 (h : SlAt w1 p c came) => came_any ⟨3, n, owner, need, came, turns, there⟩ p c wk w1 h)
    unfold Ce.val at HCM
    dsimp only at HCM
    cases hct : came.contains wk with
    | true =>
      rw [hct] at HCM
      have HP : Hid (stepP ⟨3, n, owner, need, came, turns, there⟩ wk ⟨5, ac, ao, an⟩ = (⟨3, n, owner, need, came, turns, there⟩, 0, 232)) := by simp only [Hid, stepP, hct]; simp
      clear hct
      go_enter Try.func63, Try.ntmps63
      go_wp2_with (go_at_call 69; rw [← HW3.out]; refine (HCM.out _ hs3).mono ?_; rintro e w1 ⟨rfl, hb1⟩; have hs1 := hs3.below hb1; have hz1 := hb1.size; have HA1 := hid (HST3.out.1.below hb1); have HC1 := hid (HST3.out.2.1.below hb1); have HZ1 := hid (HST3.out.2.2.below hb1); have hbw1 := hb3.trans (hb1.mono (by omega)); obtain ⟨⟨a0, a1, a2, a3, a4, a5, a6⟩, af, al⟩ := HA1.out.facts; dsimp only at a0 a1 a2 a3 a4 a5 a6; obtain ⟨⟨c0, c1, c2, c3⟩, cl⟩ := HC1.out.facts; dsimp only at c0 c1 c2 c3; obtain ⟨⟨z0, z1, z2, z3, z4, z5, z6⟩, zf, zl⟩ := HZ1.out.facts; dsimp only [ce0, List.length_nil] at z0 z1 z2 z3 z4 z5 z6)
      exact bodyPost_ret (v := .tuple #[(Ce.mk 3 n owner need came turns there).val p c, i64 0, i64 232]) (by simp [results, Try.results63, go_sem, Ce.val, a0, a1, a2, a3, a4, a5, a6, z0, z1, z2, z3, z4, z5, z6]) rfl (by
        rw [HP.out]
        refine ⟨p, c, rfl, ?_, .inl ⟨rfl, rfl, rfl⟩, ?_⟩
        · repeat (refine SlAt.setL ?_ hs _ _ _ (by omega))
          exact hs1
        · repeat (refine Below.setCell ?_ (by first | omega | (simp; done) | (simp; omega)) _)
          exact hbw1)
    | false =>
      rw [hct] at HCM
      by_cases hmx : turns = 1152921504606846976
      · have e2 : (turns == 1152921504606846976) = true := by simpa using hmx
        have HP : Hid (stepP ⟨3, n, owner, need, came, turns, there⟩ wk ⟨5, ac, ao, an⟩ = (⟨3, n, owner, need, came, turns, there⟩, 0, 8)) := by simp only [Hid, stepP, hct, hmx]; simp
        clear hct hmx
        go_enter Try.func63, Try.ntmps63
        go_wp2_with (go_at_call 69; rw [← HW3.out]; refine (HCM.out _ hs3).mono ?_; rintro e w1 ⟨rfl, hb1⟩; have hs1 := hs3.below hb1; have hz1 := hb1.size; have HA1 := hid (HST3.out.1.below hb1); have HC1 := hid (HST3.out.2.1.below hb1); have HZ1 := hid (HST3.out.2.2.below hb1); have hbw1 := hb3.trans (hb1.mono (by omega)); obtain ⟨⟨a0, a1, a2, a3, a4, a5, a6⟩, af, al⟩ := HA1.out.facts; dsimp only at a0 a1 a2 a3 a4 a5 a6; obtain ⟨⟨c0, c1, c2, c3⟩, cl⟩ := HC1.out.facts; dsimp only at c0 c1 c2 c3; obtain ⟨⟨z0, z1, z2, z3, z4, z5, z6⟩, zf, zl⟩ := HZ1.out.facts; dsimp only [ce0, List.length_nil] at z0 z1 z2 z3 z4 z5 z6)
        exact bodyPost_ret (v := .tuple #[(Ce.mk 3 n owner need came turns there).val p c, i64 0, i64 8]) (by simp [results, Try.results63, go_sem, Ce.val, a0, a1, a2, a3, a4, a5, a6, z0, z1, z2, z3, z4, z5, z6]) rfl (by
          rw [HP.out]
          refine ⟨p, c, rfl, ?_, .inl ⟨rfl, rfl, rfl⟩, ?_⟩
          · repeat (refine SlAt.setL ?_ hs _ _ _ (by omega))
            exact hs1
          · repeat (refine Below.setCell ?_ (by first | omega | (simp; done) | (simp; omega)) _)
            exact hbw1)
      · have e2 : (turns == 1152921504606846976) = false := by simpa using hmx
        have ht2 : turns < 1152921504606846976 := by omega
        have HCL := hid (fun w1 (h : SlAt w1 p c came) =>
          show Calls Try.prog 59 #[.agg #[i64 3, i64 n, i64 owner, i64 need, .slice p came.length c, i64 turns, .bool there]] w1 (fun e w' => ∃ pw cw, e = .returned (.agg #[i64 3, i64 n, i64 owner, i64 need, .slice pw came.length cw, i64 turns, .bool there]) ∧ w'.ownsRow w1.heap.size 3 1 (.slice pw came.length cw) came.length (i64s came) ∧ Below w1.heap.size w1 w') from rclone_any ⟨3, n, owner, need, came, turns, there⟩ p c w1 (by dsimp only; omega) h)
        by_cases hfull : (came.length : Int) + 1 = need
        · have e3 : ((came.length : Int) + 1 == need) = true := by simpa using hfull
          have HP : Hid (stepP ⟨3, n, owner, need, came, turns, there⟩ wk ⟨5, ac, ao, an⟩ = (⟨3, n, owner, need, [], turns + 1, there⟩, turns, 0)) := by simp only [Hid, stepP, hct, if_neg hmx, if_pos hfull]; simp
          clear hct hmx hfull
          go_enter Try.func63, Try.ntmps63
          go_wp2_with (first
            | (go_at_call 69; rw [← HW3.out]; refine (HCM.out _ hs3).mono ?_; rintro e w1 ⟨rfl, hb1⟩; have hs1 := hs3.below hb1; have hz1 := hb1.size; have HA1 := hid (HST3.out.1.below hb1); have HC1 := hid (HST3.out.2.1.below hb1); have HZ1 := hid (HST3.out.2.2.below hb1); have hbw1 := hb3.trans (hb1.mono (by omega)); obtain ⟨⟨a0, a1, a2, a3, a4, a5, a6⟩, af, al⟩ := HA1.out.facts; dsimp only at a0 a1 a2 a3 a4 a5 a6; obtain ⟨⟨c0, c1, c2, c3⟩, cl⟩ := HC1.out.facts; dsimp only at c0 c1 c2 c3; obtain ⟨⟨z0, z1, z2, z3, z4, z5, z6⟩, zf, zl⟩ := HZ1.out.facts; dsimp only [ce0, List.length_nil] at z0 z1 z2 z3 z4 z5 z6)
            | (go_at_call 59; refine (HCL.out _ hs1).mono ?_; rintro e w2 ⟨pc, cc, rfl, ho2, hb2⟩; have hz2 := hb2.size; have HA2 := hid (HA1.out.below hb2); have HZ2 := hid (HZ1.out.below hb2); have HGE := hid (own_ge ho2); have hbw2 := hbw1.trans (hb2.mono hbw1.size); obtain ⟨⟨q0, q1, q2, q3, q4, q5, q6⟩, qf, ql⟩ := HA2.out.facts; dsimp only at q0 q1 q2 q3 q4 q5 q6)
            | ((with_reducible show wpList _ _ _ (⟨some 42, _, _, _, _, _⟩ :: _) _ _); go_loud (refine wpList_app EI rfl _ _ rfl w1.heap.size (.slice pc came.length cc) came.length (i64s came) rfl ((own_store7 ho2 w.heap.size (fun g hg => by have := HGE.out g hg; omega) (i64 3) (i64 n) (i64 owner) (i64 need) (.slice pc came.length cc) (i64 turns) (.bool there)).alloc _) _ 1 1 [i64 wk] rfl rfl (by simp) (row_newAt _ _ _ _ (by simp)) (by simp [Value.oneCell']) (by unfold maxLen; omega) (by omega) (by simp; omega) ?_); intro v2 w4 ho4 hg4 hs4; have hbv : ∀ g, (Value.slice pc came.length cc).ownBlock = some g → w1.heap.size ≤ g := HGE.out; have HK4 := hid (((ceblk_store HA2.out ⟨3, n, owner, need, came, turns, there⟩ pc cc).alloc _).grown hg4 (fun e => by have := hbv _ e.symm; omega)); have HZ4 := hid (((ceblk_storeO HZ2.out w.heap.size (by omega) (i64 3) (i64 n) (i64 owner) (i64 need) (.slice pc came.length cc) (i64 turns) (.bool there)).alloc _).grown hg4 (fun e => by have := hbv _ e.symm; omega)); have HO4 := hid ho4; obtain ⟨p4, c4, rfl, hr4⟩ := own_shape ho4; obtain ⟨⟨u0, u1, u2, u3, u4, u5, u6⟩, uf, ul⟩ := HK4.out.facts; dsimp only at u0 u1 u2 u3 u4 u5 u6; obtain ⟨⟨y0, y1, y2, y3, y4, y5, y6⟩, yf, yl⟩ := HZ4.out.facts; dsimp only [ce0, List.length_nil] at y0 y1 y2 y3 y4 y5 y6))
          have hbw4 : Below w.heap.size w w4 := (((below_store hbw2 w.heap.size (Nat.le_refl _) (i64 3) (i64 n) (i64 owner) (i64 need) (.slice pc came.length cc) (i64 turns) (.bool there)).alloc (by simp; omega) _).grown hg4 (by simp; omega) (fun g hg => by have := HGE.out g hg; omega))
          exact bodyPost_ret (v := .tuple #[(Ce.mk 3 n owner need [] (turns + 1) there).val none 0, i64 turns, i64 0]) (by simp [results, Try.results63, go_sem, Ce.val, u0, u1, u2, u3, u4, u5, u6, y0, y1, y2, y3, y4, y5, y6]) rfl (by
            rw [HP.out]
            refine ⟨none, 0, rfl, ?_, .inr (fun q hq => by cases hq), ?_⟩
            · exact slat_nil _
            · repeat (refine Below.setCell ?_ (by first | omega | (simp; done) | (simp; omega)) _)
              exact hbw4)
        · have e3 : ((came.length : Int) + 1 == need) = false := by simpa using hfull
          have HP : Hid (stepP ⟨3, n, owner, need, came, turns, there⟩ wk ⟨5, ac, ao, an⟩ = (⟨3, n, owner, need, came ++ [wk], turns, there⟩, turns, 0)) := by simp only [Hid, stepP, hct, if_neg hmx, if_neg hfull]; simp
          clear hct hmx hfull
          go_enter Try.func63, Try.ntmps63
          go_wp2_with (first
            | (go_at_call 69; rw [← HW3.out]; refine (HCM.out _ hs3).mono ?_; rintro e w1 ⟨rfl, hb1⟩; have hs1 := hs3.below hb1; have hz1 := hb1.size; have HA1 := hid (HST3.out.1.below hb1); have HC1 := hid (HST3.out.2.1.below hb1); have HZ1 := hid (HST3.out.2.2.below hb1); have hbw1 := hb3.trans (hb1.mono (by omega)); obtain ⟨⟨a0, a1, a2, a3, a4, a5, a6⟩, af, al⟩ := HA1.out.facts; dsimp only at a0 a1 a2 a3 a4 a5 a6; obtain ⟨⟨c0, c1, c2, c3⟩, cl⟩ := HC1.out.facts; dsimp only at c0 c1 c2 c3; obtain ⟨⟨z0, z1, z2, z3, z4, z5, z6⟩, zf, zl⟩ := HZ1.out.facts; dsimp only [ce0, List.length_nil] at z0 z1 z2 z3 z4 z5 z6)
            | (go_at_call 59; refine (HCL.out _ hs1).mono ?_; rintro e w2 ⟨pc, cc, rfl, ho2, hb2⟩; have hz2 := hb2.size; have HA2 := hid (HA1.out.below hb2); have HZ2 := hid (HZ1.out.below hb2); have HGE := hid (own_ge ho2); have hbw2 := hbw1.trans (hb2.mono hbw1.size); obtain ⟨⟨q0, q1, q2, q3, q4, q5, q6⟩, qf, ql⟩ := HA2.out.facts; dsimp only at q0 q1 q2 q3 q4 q5 q6)
            | ((with_reducible show wpList _ _ _ (⟨some 42, _, _, _, _, _⟩ :: _) _ _); go_loud (refine wpList_app EI rfl _ _ rfl w1.heap.size (.slice pc came.length cc) came.length (i64s came) rfl ((own_store7 ho2 w.heap.size (fun g hg => by have := HGE.out g hg; omega) (i64 3) (i64 n) (i64 owner) (i64 need) (.slice pc came.length cc) (i64 turns) (.bool there)).alloc _) _ 1 1 [i64 wk] rfl rfl (by simp) (row_newAt _ _ _ _ (by simp)) (by simp [Value.oneCell']) (by unfold maxLen; omega) (by omega) (by simp; omega) ?_); intro v2 w4 ho4 hg4 hs4; have hbv : ∀ g, (Value.slice pc came.length cc).ownBlock = some g → w1.heap.size ≤ g := HGE.out; have HK4 := hid (((ceblk_store HA2.out ⟨3, n, owner, need, came, turns, there⟩ pc cc).alloc _).grown hg4 (fun e => by have := hbv _ e.symm; omega)); have HZ4 := hid (((ceblk_storeO HZ2.out w.heap.size (by omega) (i64 3) (i64 n) (i64 owner) (i64 need) (.slice pc came.length cc) (i64 turns) (.bool there)).alloc _).grown hg4 (fun e => by have := hbv _ e.symm; omega)); have HO4 := hid ho4; obtain ⟨p4, c4, rfl, hr4⟩ := own_shape ho4; obtain ⟨⟨u0, u1, u2, u3, u4, u5, u6⟩, uf, ul⟩ := HK4.out.facts; dsimp only at u0 u1 u2 u3 u4 u5 u6; obtain ⟨⟨y0, y1, y2, y3, y4, y5, y6⟩, yf, yl⟩ := HZ4.out.facts; dsimp only [ce0, List.length_nil] at y0 y1 y2 y3 y4 y5 y6))
          have hbw4 : Below w.heap.size w w4 := (((below_store hbw2 w.heap.size (Nat.le_refl _) (i64 3) (i64 n) (i64 owner) (i64 need) (.slice pc came.length cc) (i64 turns) (.bool there)).alloc (by simp; omega) _).grown hg4 (by simp; omega) (fun g hg => by have := HGE.out g hg; omega))
          have hsl4 : SlAt w4 p4 c4 (came ++ [wk]) := own_slat (n := came.length + 1) (m := came.length + 1) (by have := HO4.out; rwa [show i64s came ++ [i64 wk] = i64s (came ++ [wk]) by simp] at this)
          have hge4 := hid (own_ge HO4.out)
          exact bodyPost_ret (v := .tuple #[(Ce.mk 3 n owner need (came ++ [wk]) turns there).val p4 c4, i64 turns, i64 0]) (by simp [results, Try.results63, go_sem, Ce.val, u0, u1, u2, u3, u4, u5, u6, y0, y1, y2, y3, y4, y5, y6]) rfl (by
            rw [HP.out]
            refine ⟨p4, c4, rfl, ?_, .inr (fun q hq => ⟨by have := hge4.out q.block (by subst hq; rfl); omega, by have := own_lt HO4.out q.block (by subst hq; rfl); simp; omega⟩), ?_⟩
            · repeat (refine SlAt.set ?_ _ _ _ (fun q hq e => by have := hge4.out q.block (by subst hq; rfl); omega))
              exact hsl4
            · repeat (refine Below.setCell ?_ (by first | omega | (simp; done) | (simp; omega)) _)
              exact hbw4)
end Go.Proofs.Ythmockfeffikjaa
