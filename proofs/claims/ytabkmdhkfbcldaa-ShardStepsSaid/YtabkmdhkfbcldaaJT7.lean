/-
  run with ShardSteps's function (printed by genrun.py).
  ShardSteps: what run keeps; its function.
  ShardSteps: its function.
  ShardSteps: what is told are the document's rows, in order.
  ShardSteps: the walk.
-/
import Derived.Test.YtabkmdhkfbcldaaJT6
namespace Go.Proofs.Ytabkmdhkfbcldaa
open Go.RowKit
variable {w w' : World} {K : Wk}

set_option maxRecDepth 40000 in
set_option maxHeartbeats 4000000 in
theorem run20_any {rb tb kb : Nat} {w0 : World} {M base t : Nat} {J : Sh → World → Prop} {J1 : Sh → Int → World → Prop} (HJ : RunJ w0 K M base t J J1 20 (fun v => #[.int .i64 v, .pointer (some ⟨rb, 0, none⟩), .pointer (some ⟨tb, 0, none⟩), .pointer (some ⟨kb, 0, none⟩)])) (HK : WkOk K) (hM : M ≤ 399) {S : Sh} (hj : J S w) (hok : RunOk K M S)
    (p : Option Addr) (c : Nat) (picks : List Nat) (hl : picks.length ≤ 1000000) (hu : ∀ n ∈ picks, n ≤ 255) (hr : Row w0 p (picks.map (fun n : Nat => .int .u8 n))) :
    Calls Try.prog 19 #[.pointer (some ⟨t, 0, none⟩), .slice p picks.length c, .func (.func 20) #[] #[.pointer (some ⟨rb, 0, none⟩), .pointer (some ⟨tb, 0, none⟩), .pointer (some ⟨kb, 0, none⟩)]] w (RunPost K M J S) := by
  have HI0 : Hid (RunI K M J S S w) := ⟨hj, hok, Reach.refl S⟩
  have HJJ := hid HJ
  have HU := hid hu
  have HO := hid (TabIs.shLt HK)
  have HWK := hid (fun S W (h : J S W) => (HJ.tok S W h).elim fun B hT => workers_any hT.is)
  have HDN := hid (fun S W (h : J S W) (v : Int) => (HJ.tok S W h).elim fun B hT => done_any hT.is v)
  have HWT := hid (fun S W (h : J S W) (v : Int) => (HJ.tok S W h).elim fun B hT => twaits_any hT.is HK v)
  have HST := hid HJ.step
  have HEA : Hid (∀ S W (v : Int), 0 ≤ v → v ≤ K.work.length → J1 S v W → RunOk K M S → Calls Try.prog 20 #[.int .i64 v, .pointer (some ⟨rb, 0, none⟩), .pointer (some ⟨tb, 0, none⟩), .pointer (some ⟨kb, 0, none⟩)] W fun e W' => e = .returned (.bool true) ∧ J (S.stepI K v) W') := HJ.each
  have hn := HK.wn
  obtain ⟨n, hnn⟩ : ∃ n : Nat, n = K.work.length := ⟨_, rfl⟩
  have HN := hid hnn
  rw [← hnn] at hn HWK HEA
  clear hnn HJ hj hok hu HK
  go_enter Try.func19, Try.ntmps19
  go_wp2_with fail
  go_loopw [14] (fun i wr => ∃ (k : Nat) (S' : Sh), k ≤ picks.length ∧ i = .int .i64 k ∧ RunI K M J S S' wr) (fun i _ => picks.length - (intOf i).toNat)
  case atStart => exact ⟨0, S, by omega, rfl, HI0.out⟩
  case round =>
    rename World => wx
    obtain ⟨k, S1, hk, rfl, hri⟩ := hrel
    have HRI := hid hri
    clear hri HI0
    by_cases hlt : k < picks.length
    · obtain ⟨b, o, rfl, _, hcell⟩ := (hr.below (HJJ.out.bel _ _ HRI.out.j)).at (by simp; omega)
      have hck := hcell k (by simpa using hlt)
      simp only [List.getElem_map] at hck
      have hx := HU.out _ (List.getElem_mem hlt)
      have hkI : (k : Int) < picks.length := by omega
      clear hcell
      generalize picks[k] = x at *
      obtain ⟨v, hv⟩ : ∃ v : Int, (x : Int).tmod ((n : Int) + 1) = v := ⟨_, rfl⟩
      have hn1 : ¬ ((n : Int) + 1) = 0 := by omega
      have hv0 : 0 ≤ v := by rw [← hv]; exact Int.tmod_nonneg _ (by omega)
      have hv1 : v < (n : Int) + 1 := by rw [← hv]; exact Int.tmod_lt_of_pos _ (by omega)
      have hv2 : v ≤ n := by omega
      have HV2 := hid (And.intro hv0 hv2)
      have hwv : IntKind.i64.wrap v = v := IntWalk.i64_in _ (by omega)
      have hwx : IntKind.i64.wrap (x : Int) = x := IntWalk.i64_in _ (by omega)
      have HVI := hid (HRI.out.next HO.out v (W' := wx))
      go_wp2_with (first
        | (go_at_call 15; (with_reducible refine (HWK.out _ _ HRI.out.j).mono ?_); rintro e w2 ⟨rfl, hw2⟩; subst hw2)
        | (go_at_call 33; (with_reducible refine (HST.out _ _ _ HRI.out.j HRI.out.ok).mono ?_); rintro e w3 ⟨rfl, hj3⟩; have HJ3 := hid hj3; clear hj3)
        | (go_at_call 20; (with_reducible refine (HEA.out _ _ _ HV2.out.1 HV2.out.2 HJ3.out HRI.out.ok).mono ?_); rintro e w4 ⟨rfl, hj4⟩; have HJ4 := hid hj4; clear hj4))
      exact ⟨⟨k + 1, _, by omega, by go_num, HRI.out.next HO.out v HJ4.out⟩, by simp [intOf]; omega⟩
    · have hke : k = picks.length := by omega
      subst hke
      go_wp2_with fail
      go_loopw [32] (fun i wr => ∃ (r : Nat) (S' : Sh), r ≤ 400 ∧ i = .int .i64 r ∧ RunI K M J S S' wr ∧ r ≤ S'.steps) (fun i _ => 400 - (intOf i).toNat)
      case atStart => exact ⟨0, S1, by omega, rfl, HRI.out, by omega⟩
      case round =>
        rename World => wy
        obtain ⟨r, S2, hr4, rfl, hri2, hrs⟩ := hrel
        have HR2 := hid hri2
        have HRS := hid hrs
        have hr3 : r ≤ 399 := by have := hri2.ok.m; omega
        clear hri2 hrs HRI
        have hrI : (r : Int) < 400 := by omega
        go_wp2_with (go_at_call 15; (with_reducible refine (HWK.out _ _ HR2.out.j).mono ?_); rintro e w2 ⟨rfl, hw2⟩; subst hw2)
        go_loopw [10, 36] (fun mv i wr => ∃ (j : Nat) (S' : Sh) (b : Bool), j ≤ n ∧ i = .int .i64 j ∧ mv = .bool b ∧ RunI K M J S S' wr ∧ (b = false → S' = S2 ∧ ∀ v, v < j → S2.canN K v = false) ∧ (b = true → r + 1 ≤ S'.steps)) (fun _ i _ => n - (intOf i).toNat)
        case atStart => exact ⟨0, S2, false, by omega, rfl, rfl, HR2.out, fun _ => ⟨rfl, fun v hv => (by omega)⟩, fun h => (by cases h)⟩
        case round =>
          rename World => wz
          obtain ⟨j, S3, b, hj, rfl, rfl, hri3, hb0, hb1⟩ := hrel
          have HR3 := hid hri3
          have HB := hid (And.intro hb0 hb1)
          clear hri3 hb0 hb1
          by_cases hjn : j < n
          · have hjI : (j : Int) < n := by omega
            have hjw : j < K.work.length := by rw [← HN.out]; exact hjn
            have hdw := doneI_nat S3 j hjw
            have HD3 := hid (HDN.out _ _ HR3.out.j (j : Int))
            have HW3 := hid (fun q => HWT.out _ _ (HJJ.out.below _ _ _ HR3.out.j (below_drewN (Below.refl _ _) q)) (j : Int))
            rw [hdw] at HD3
            cases hd : S3.doneN K j with
            | true =>
              rw [hd] at HD3
              have hc : S3.canN K j = false := by unfold Sh.canN; rw [hd]; rfl
              have HC := hid hc
              clear hdw hd hc
              go_wp2_with (go_at_call 17; (with_reducible refine HD3.out.mono ?_); rintro e w3 ⟨rfl, qd, rfl⟩)
              refine ⟨⟨j + 1, S3, b, by omega, by go_num, rfl, HR3.out.below HJJ.out (below_drewN (Below.refl _ _) _), fun h => ⟨(HB.out.1 h).1, fun v hv => ?_⟩, HB.out.2⟩, by simp [intOf]; omega⟩
              by_cases e : v = j
              · subst e; rw [← (HB.out.1 h).1]; exact HC.out
              · exact (HB.out.1 h).2 v (by omega)
            | false =>
              rw [hd] at HD3
              have hww := waitsI_nat S3 j hjw hd
              rw [hww] at HW3
              cases hw : S3.waitsN K j with
              | true =>
                rw [hw] at HW3
                have hc : S3.canN K j = false := by unfold Sh.canN; rw [hw]; simp
                have HC := hid hc
                clear hdw hd hc hw hww
                go_wp2_with (first
                  | (go_at_call 17; (with_reducible refine HD3.out.mono ?_); rintro e w3 ⟨rfl, qd, rfl⟩)
                  | (go_at_call 18; (with_reducible refine (HW3.out _).mono ?_); rintro e w4 ⟨rfl, hb4⟩; have hb4' : Below wz.heap.size wz w4 := (below_drewN (Below.refl _ wz) qd).trans (hb4.mono (Nat.le_refl _)); have HJB := hid (HJJ.out.below _ _ _ HR3.out.j hb4'); have HB4 := hid hb4'; clear hb4 hb4'))
                refine ⟨⟨j + 1, S3, b, by omega, by go_num, rfl, HR3.out.below HJJ.out HB4.out, fun h => ⟨(HB.out.1 h).1, fun v hv => ?_⟩, HB.out.2⟩, by simp [intOf]; omega⟩
                by_cases e : v = j
                · subst e; rw [← (HB.out.1 h).1]; exact HC.out
                · exact (HB.out.1 h).2 v (by omega)
              | false =>
                rw [hw] at HW3
                have hc : S3.canN K j = true := by unfold Sh.canN; rw [hd, hw]; rfl
                have HST3 : Hid ((S3.stepI K (j : Int)).steps = S3.steps + 1) := by unfold Hid; rw [stepI_nat]; exact (left_step HR3.out.ok.ok hjw hc).2
                have HBS : Hid (r ≤ S3.steps) := by
                  unfold Hid
                  cases hbb : b with
                  | false => rw [(HB.out.1 hbb).1]; exact HRS.out
                  | true => have := HB.out.2 hbb; omega
                have hjw2 : (0 : Int) ≤ j ∧ (j : Int) ≤ n := by omega
                have HJW := hid hjw2
                clear hdw hd hc hw hww hjw hjw2
                go_wp2_with (first
                  | (go_at_call 17; (with_reducible refine HD3.out.mono ?_); rintro e w3 ⟨rfl, qd, rfl⟩)
                  | (go_at_call 18; (with_reducible refine (HW3.out _).mono ?_); rintro e w4 ⟨rfl, hb4⟩; have hb4' : Below wz.heap.size wz w4 := (below_drewN (Below.refl _ wz) qd).trans (hb4.mono (Nat.le_refl _)); have HJB := hid (HJJ.out.below _ _ _ HR3.out.j hb4'); have HB4 := hid hb4'; clear hb4 hb4')
                  | (go_at_call 33; (with_reducible refine (HST.out _ _ _ HJB.out HR3.out.ok).mono ?_); rintro e w5 ⟨rfl, hj5⟩; have HJ5 := hid hj5; clear hj5)
                  | (go_at_call 20; (with_reducible refine (HEA.out _ _ _ HJW.out.1 HJW.out.2 HJ5.out HR3.out.ok).mono ?_); rintro e w6 ⟨rfl, hj6⟩; have HJ6 := hid hj6; clear hj6))
                exact ⟨⟨j + 1, _, true, by omega, by go_num, rfl, HR3.out.next HO.out (j : Int) HJ6.out, fun h => (by cases h), fun _ => (by rw [HST3.out]; have := HBS.out; omega)⟩, by simp [intOf]; omega⟩
          · have hje : j = n := by omega
            subst hje
            cases b with
            | false =>
              go_wp2_with fail
              go_ret
              refine ⟨by first | rfl | trivial, S3, HR3.out, fun v hv => ?_⟩
              have hb := HB.out.1 (by first | rfl | trivial)
              rw [hb.1]
              exact hb.2 v (by rw [HN.out]; exact hv)
            | true =>
              go_wp2_with fail
              exact ⟨⟨r + 1, S3, by omega, by go_num, HR3.out, HB.out.2 (by first | rfl | trivial)⟩, by simp [intOf]; omega⟩
end Go.Proofs.Ytabkmdhkfbcldaa
namespace Go.Proofs.Ytabkmdhkfbcldaa
open Go.RowKit
variable {W W' w w' : World} {base r : Nat} {K : Wk} {S : Sh} {B : RB}

theorem rows_step {K : Wk} {S : Sh} (h : S.rows.length ≤ S.steps) (w : Nat) : (S.stepN K w).rows.length ≤ (S.stepN K w).steps := by
  unfold Sh.stepN
  split
  · unfold Sh.body
    dsimp only
    split
    · exact Nat.le_succ_of_le h
    · exact Nat.le_succ_of_le h
    · show (S.rows ++ [_]).length ≤ S.steps + 1; rw [List.length_append]; simp; omega
    · show (S.rows.map _).length ≤ S.steps + 1; rw [List.length_map]; omega
    · split
      · exact Nat.le_succ_of_le h
      · exact Nat.le_succ_of_le h
    · exact Nat.le_succ_of_le h
  · exact h
/-- What holds of the state besides. -/
structure SOk (S : Sh) : Prop where
  rows : S.rows.length ≤ S.steps
  idle : Idle S
theorem SOk.stepI {K : Wk} {S : Sh} (ho : ShOk K S) (h : SOk S) (v : Int) : SOk (S.stepI K v) := by
  unfold Sh.stepI
  split
  · exact h
  · refine ⟨rows_step h.rows _, ?_⟩
    cases hc : S.canN K v.toNat with
    | true => exact idle_step ho h.idle _ hc
    | false => rw [step_not hc]; exact h.idle
theorem TabIs.fp_lt {W : World} {base t : Nat} {K : Wk} {S : Sh} {B : TB} (h : TabIs W base t K S B) {b : Nat} (hb : B.fp K t b) : b < W.heap.size := by
  rcases hb with hb | hb
  · exact (h.ap b hb).2.2
  · obtain ⟨v, ys, H⟩ := h.mem
    exact H.lt b hb
/-- The code's table lies on where its own blocks do. -/
theorem TabIs.but {W W' : World} {base t : Nat} {K : Wk} {S : Sh} {B : TB} (h : TabIs W base t K S B) {X : Nat → Prop} (hb : But X W W') (hx : ∀ b, B.fp K t b → ¬ X b) : TabIs W' base t K S B := by
  have k : ∀ b, B.mine K t b → W'.heap[b]? = W.heap[b]? := fun b hm => hb.keep b (h.ap b hm).2.2 (hx b (.inl hm))
  refine ⟨(k t (.inl rfl)).trans h.head, h.mem.kept (fun j hj => hb.keep j (h.fp_lt (.inr hj)) (hx j (.inr hj))) hb.size, h.lm, own_blk h.work (fun b hb2 => k b (.inr (.inr (.inr (.inr (.inl hb2)))))), fun w hw => own_blk (h.asks w hw) (fun b hb2 => k b (.inr (.inr (.inr (.inr (.inr (.inr (.inr (.inl ⟨w, hw, hb2⟩))))))))), own_blk h.ats (fun b hb2 => k b (.inr (.inr (.inr (.inr (.inr (.inl hb2))))))), h.hands.but hb (hx _ (.inl (.inr (.inl rfl)))), h.free,
    fun w hw => ⟨(h.hand w hw).1, (k _ (.inr (.inr (.inr (.inr (.inr (.inr (.inr (.inr ⟨w, hw, rfl⟩))))))))).trans (h.hand w hw).2⟩, h.vals.but hb (hx _ (.inl (.inr (.inr (.inl rfl))))), h.valIs, h.told.but hb (hx _ (.inl (.inr (.inr (.inr (.inl rfl)))))), h.toldIs, own_blk h.past (fun b hb2 => k b (.inr (.inr (.inr (.inr (.inr (.inr (.inl hb2)))))))), h.wsl, h.nxl, h.hnl, h.lkl, h.mp, h.hi, fun b hm => ⟨(h.ap b hm).1, (h.ap b hm).2.1, Nat.lt_of_lt_of_le (h.ap b hm).2.2 hb.size⟩, h.nxt, h.hnd⟩
theorem RIs.but (h : RIs W base r K S B) {X : Nat → Prop} (hb : But X W W') (hx : ∀ b, B.fp r b → ¬ X b) (hbelow : Below base W W') : RIs W' base r K S B := by
  obtain ⟨l0, l1, l2, l3⟩ := h.lt
  have k : ∀ b, b < W.heap.size → B.fp r b → W'.heap[b]? = W.heap[b]? := fun b hl hf => hb.keep b hl (hx b hf)
  exact ⟨(k r l0 (.inl rfl)).trans h.head, (k _ l1 (.inr (.inl rfl))).trans h.locks, (k _ l2 (.inr (.inr (.inl rfl)))).trans h.nexts, (k _ l3 (.inr (.inr (.inr (.inl rfl))))).trans h.hands,
    own_blk h.rows (fun b hb2 => k b (own_lt h.rows b hb2) (.inr (.inr (.inr (.inr (.inl hb2)))))), own_blk h.calls (fun b hb2 => k b (own_lt h.calls b hb2) (.inr (.inr (.inr (.inr (.inr hb2)))))),
    h.work.blk (base := base) (fun b hl => hbelow.block b hl) h.wlt, h.wk, h.ge, h.ne, h.wlt, h.nxl, h.hnl, h.lkl⟩
/-- Two tables side by side, and the boxes. -/
structure JSS (w0 : World) (bt t r tb rb kb : Nat) (key : ByteArray) (K : Wk) (S1 S2 : Sh) (W : World) : Prop where
  both : ∃ B R, TOk W bt t K S1 B ∧ RIs W w0.heap.size r K S2 R ∧ (∀ b, B.fp K t b → ¬ R.fp r b) ∧ (∀ b, (b = tb ∨ b = rb ∨ b = kb) → ¬ B.fp K t b ∧ ¬ R.fp r b)
  ok : SOk S2 ∧ ShOk K S2
  b : Below w0.heap.size w0 W
  boxes : W.heap[tb]? = some (.cells #[.pointer (some ⟨t, 0, none⟩)] 30 (0, 0)) ∧ W.heap[rb]? = some (.cells #[.pointer (some ⟨r, 0, none⟩)] 34 (0, 0)) ∧ W.heap[kb]? = some (.cells #[.string key] 9 (0, 0))
  ge : w0.heap.size ≤ bt
section
variable {w0 : World} {bt t tb rb kb : Nat} {key : ByteArray} {S1 S2 : Sh}
theorem JSS.below (h : JSS w0 bt t r tb rb kb key K S1 S2 W) (hb : Below W.heap.size W W') : JSS w0 bt t r tb rb kb key K S1 S2 W' := by
  obtain ⟨B, R, h1, h2, h3, h4⟩ := h.both
  obtain ⟨b1, b2, b3⟩ := h.boxes
  have k : ∀ {j : Nat} {o : Obj}, W.heap[j]? = some o → W'.heap[j]? = some o := fun hj => (hb.block _ (Array.getElem?_eq_some_iff.1 hj).1).trans hj
  exact ⟨⟨B, R, ⟨h1.is.below hb, h1.ok, h1.pr, h1.hv⟩, h2.below hb, h3, h4⟩, h.ok, h.b.trans (hb.mono h.b.size), ⟨k b1, k b2, k b3⟩, h.ge⟩
theorem JSS.code (h : JSS w0 bt t r tb rb kb key K S S W) (HK : WkOk K) {M : Nat} (hr : RunOk K M S) (hM : M ≤ 399) (ho : ∀ k, (K.own k).length ≤ 60) (v : Int) :
    Calls Try.prog 33 #[.pointer (some ⟨t, 0, none⟩), .int .i64 v] W fun e W' => e = .returned (.tuple #[]) ∧ JSS w0 bt t r tb rb kb key K (S.stepI K v) S W' := by
  obtain ⟨B, R, h1, h2, h3, h4⟩ := h.both
  obtain ⟨b1, b2, b3⟩ := h.boxes
  refine (step_any h1 HK v (by have := hr.m; omega) (fun k => by have := ho k; omega)).mono ?_
  rintro e W' ⟨rfl, B', hT', hfp, hbut, hbel⟩
  have k : ∀ {j : Nat} {o : Obj}, ¬ B.fp K t j → W.heap[j]? = some o → W'.heap[j]? = some o := fun hn hj => (hbut.keep _ (Array.getElem?_eq_some_iff.1 hj).1 hn).trans hj
  have lt : ∀ {j : Nat} {o : Obj}, W.heap[j]? = some o → j < W.heap.size := fun hj => (Array.getElem?_eq_some_iff.1 hj).1
  have hbel0 := hbel.mono h.ge
  refine ⟨rfl, ⟨B', R, hT', h2.but hbut (fun b hb hx => h3 b hx hb) hbel0, fun b hb hR => ?_, fun b hb => ⟨fun hf => ?_, (h4 b hb).2⟩⟩, h.ok, h.b.trans hbel0, ⟨k (h4 tb (.inl rfl)).1 b1, k (h4 rb (.inr (.inl rfl))).1 b2, k (h4 kb (.inr (.inr rfl))).1 b3⟩, h.ge⟩
  · rcases hfp b hb with e | e
    · exact h3 b e hR
    · have := (h2.fp_in hR).2; omega
  · rcases hfp b hf with e | e
    · exact (h4 b hb).1 e
    · rcases hb with rfl | rfl | rfl
      · have := lt b1; omega
      · have := lt b2; omega
      · have := lt b3; omega
theorem JSS.doc {S' : Sh} (h : JSS w0 bt t r tb rb kb key K S' S W) (HK : WkOk K) {M : Nat} (hr : RunOk K M S) (hM : M ≤ 399) (ho : ∀ k, (K.own k).length ≤ 60) (v : Int) :
    Calls Try.prog 21 #[.pointer (some ⟨r, 0, none⟩), .int .i64 v] W fun e W' => e = .returned (.tuple #[]) ∧ JSS w0 bt t r tb rb kb key K S' (S.stepI K v) W' := by
  obtain ⟨B, R, h1, h2, h3, h4⟩ := h.both
  obtain ⟨b1, b2, b3⟩ := h.boxes
  have hrw := h.ok.1.rows
  refine (rstep_any h2 h.b.size HK h.ok.2 h.ok.1.idle (by have := hr.m; omega) v (by have := hr.m; omega) (fun k => by have := ho k; omega)).mono ?_
  rintro e W' ⟨rfl, R', hT', hfp, hbut, hbel⟩
  have k : ∀ {j : Nat} {o : Obj}, ¬ R.fp r j → W.heap[j]? = some o → W'.heap[j]? = some o := fun hn hj => (hbut.keep _ (Array.getElem?_eq_some_iff.1 hj).1 hn).trans hj
  have lt : ∀ {j : Nat} {o : Obj}, W.heap[j]? = some o → j < W.heap.size := fun hj => (Array.getElem?_eq_some_iff.1 hj).1
  have hso : ShOk K (S.stepI K v) := (RunOk.stepI (TabIs.shLt HK) hr v).ok
  refine ⟨rfl, ⟨B, R', ⟨h1.is.but hbut (fun b hb hx => h3 b hb hx), h1.ok, h1.pr, h1.hv⟩, hT', fun b hb hR => ?_, fun b hb => ⟨(h4 b hb).1, fun hf => ?_⟩⟩, ⟨h.ok.1.stepI h.ok.2 v, hso⟩, h.b.trans hbel, ⟨k (h4 tb (.inl rfl)).2 b1, k (h4 rb (.inr (.inl rfl))).2 b2, k (h4 kb (.inr (.inr rfl))).2 b3⟩, h.ge⟩
  · rcases hfp b hR with e | e
    · exact h3 b hb e
    · have := h1.is.fp_lt hb; omega
  · rcases hfp b hf with e | e
    · exact (h4 b hb).2 e
    · rcases hb with rfl | rfl | rfl
      · have := lt b1; omega
      · have := lt b2; omega
      · have := lt b3; omega
end
end Go.Proofs.Ytabkmdhkfbcldaa
namespace Go.Proofs.Ytabkmdhkfbcldaa
open Go.RowKit
variable {W W' w w' : World} {r : Nat} {K : Wk} {S : Sh} {w0 : World} {bt t tb rb kb : Nat} {key : ByteArray}

set_option maxRecDepth 40000 in
set_option maxHeartbeats 4000000 in
theorem each20 {S' : Sh} (h : JSS w0 bt t r tb rb kb key K S' S W) (HK : WkOk K) {M : Nat} (hr : RunOk K M S) (hM : M ≤ 399) (ho : ∀ k, (K.own k).length ≤ 60) (v : Int) (hS' : S' = S.stepI K v) :
    Calls Try.prog 20 #[.int .i64 v, .pointer (some ⟨rb, 0, none⟩), .pointer (some ⟨tb, 0, none⟩), .pointer (some ⟨kb, 0, none⟩)] W fun e W' => e = .returned (.bool true) ∧ JSS w0 bt t r tb rb kb key K S' S' W' := by
  have HD := hid (h.doc HK hr hM ho v)
  rw [← hS'] at HD
  have hr2 : RunOk K M S' := by rw [hS']; exact hr.stepI (TabIs.shLt HK) v
  have d1 : W.cell? ⟨rb, 0, none⟩ = some (.pointer (some ⟨r, 0, none⟩)) := cell_of_row _ _ 0 _ _ _ h.boxes.2.1
  have HR2 := hid hr2
  have HHO := hid ho
  clear h hS' hr ho
  go_enter Try.func20, Try.ntmps20
  go_upto_region 2 with (go_at_call 21; (with_reducible refine HD.out.mono ?_); rintro e w1 ⟨rfl, hj1⟩; have HJ1 := hid hj1; clear hj1)
  obtain ⟨B, R, h1, h2, -, -⟩ := HJ1.out.both
  have hok := HJ1.out.ok
  obtain ⟨b1, b2, b3⟩ := HJ1.out.boxes
  have e1 : w1.cell? ⟨tb, 0, none⟩ = some (.pointer (some ⟨t, 0, none⟩)) := cell_of_row _ _ 0 _ _ _ b1
  have e2 : w1.cell? ⟨rb, 0, none⟩ = some (.pointer (some ⟨r, 0, none⟩)) := cell_of_row _ _ 0 _ _ _ b2
  have e3 : w1.cell? ⟨kb, 0, none⟩ = some (.string key) := cell_of_row _ _ 0 _ _ _ b3
  have l1 := (Array.getElem?_eq_some_iff.1 b1).1
  have l2 := (Array.getElem?_eq_some_iff.1 b2).1
  have hrl : S'.rows.length ≤ 1000000 := by have := hok.1.rows; have := HR2.out.m; omega
  have hcl : S'.calls.length ≤ 1000000 := by have := hok.2.cnt; have := HR2.out.m; omega
  have hsz : ∀ k, (K.own k).length ≤ 1000000 := fun k => by have := HHO.out k; omega
  have HG1 := hid (get_any h1.is key)
  have HG2 := hid (rget h2 hrl key)
  have HN1 := hid (fun (wx : World) (hb : Below w1.heap.size w1 wx) => done_any (h1.is.below hb) v)
  have HN2 := hid (fun (wx : World) (hb : Below w1.heap.size w1 wx) => rdone (h2.below hb) hsz v)
  have HW1 := hid (fun (wx : World) (hb : Below w1.heap.size w1 wx) => twaits_any (h1.is.below hb) HK v)
  have HW2 := hid (fun (wx : World) (hb : Below w1.heap.size w1 wx) => rwaits_any (h2.below hb) hok.2 HK hsz hrl v)
  have HH1 := hid (fun (wx : World) (hb : Below w1.heap.size w1 wx) => history_any (h1.is.below hb) hcl)
  have HH2 := hid (fun (wx : World) (hb : Below w1.heap.size w1 wx) => rhist (h2.below hb))
  obtain ⟨pv, cv, hvc, hrc⟩ := own_shape h2.calls
  rw [hvc] at HH2
  unfold CloneC at HH1
  have HEQ := hid (fun (wx : World) (hb : Below w1.heap.size w1 wx) (p4 : Option Addr) (c4 : Nat) (h4 : Row wx p4 (S'.calls.flatMap Cl.cells)) => eqC_any p4 pv c4 cv S'.calls S'.calls wx h4 (hrc.below hb) hcl hcl)
  have g1 : ∀ wx, Below w1.heap.size w1 wx → wx.cell? ⟨tb, 0, none⟩ = some (.pointer (some ⟨t, 0, none⟩)) := fun wx hb => (hb.cell (p := ⟨tb, 0, none⟩) l1).trans e1
  have g2 : ∀ wx, Below w1.heap.size w1 wx → wx.cell? ⟨rb, 0, none⟩ = some (.pointer (some ⟨r, 0, none⟩)) := fun wx hb => (hb.cell (p := ⟨rb, 0, none⟩) l2).trans e2
  have hdd : decide (S'.calls = S'.calls) = true := decide_eq_true rfl
  rw [hdd] at HEQ
  generalize S'.doneI K v = dn at *
  generalize S'.waitsI K v = wt at *
  generalize (S'.get key).getD 0 = gv at *
  generalize (S'.get key).isSome = gs at *
  have q1 : (dn == dn) = true := by simp
  have q2 : (wt == wt) = true := by simp
  have q3 : (gv == gv) = true := by simp
  have q4 : (gs == gs) = true := by simp
  clear d1 b1 b2 b3 l1 l2 hrl hcl hsz h1 h2 hok hvc hrc hr2 hdd
  go_upto_region 4 with (first
    | (go_at_call 22; (with_reducible refine HG1.out.mono ?_); rintro e w2 ⟨rfl, hw2⟩; subst hw2)
    | (go_at_call 23; (with_reducible refine HG2.out.mono ?_); rintro e w2 ⟨rfl, hw2⟩; subst hw2))
  go_region_held3 (fun w' => Below w1.heap.size w1 w') (first | (with_reducible assumption) | exact Below.refl _ _ | exact (Below.refl _ _).drew) (first
    | (go_at_call 17; with_reducible refine (HN1.out _ (by first | assumption | exact Below.refl _ _ | exact (Below.refl _ _).drew)).mono ?_; rintro e w' ⟨rfl, hq⟩; have hq2 : Below w1.heap.size w1 w' := below_more (by obtain ⟨q, rfl⟩ := hq; exact below_drewN (Below.refl _ _) q) (by first | assumption | exact Below.refl _ _ | exact (Below.refl _ _).drew) (Nat.le_refl _); clear hq)
    | (go_at_call 24; with_reducible refine (HN2.out _ (by first | assumption | exact Below.refl _ _ | exact (Below.refl _ _).drew)).mono ?_; rintro e w' ⟨rfl, hq⟩; have hq2 : Below w1.heap.size w1 w' := below_more (by obtain ⟨q, rfl⟩ := hq; exact below_drewN (Below.refl _ _) q) (by first | assumption | exact Below.refl _ _ | exact (Below.refl _ _).drew) (Nat.le_refl _); clear hq)
    | (go_at_call 18; with_reducible refine (HW1.out _ (by first | assumption | exact Below.refl _ _ | exact (Below.refl _ _).drew)).mono ?_; rintro e w' ⟨rfl, hbq⟩; have hq2 : Below w1.heap.size w1 w' := below_more hbq (by first | assumption | exact Below.refl _ _ | exact (Below.refl _ _).drew) (Nat.le_refl _); clear hbq)
    | (go_at_call 25; with_reducible refine (HW2.out _ (by first | assumption | exact Below.refl _ _ | exact (Below.refl _ _).drew)).mono ?_; rintro e w' ⟨rfl, hbq⟩; have hq2 : Below w1.heap.size w1 w' := below_more hbq (by first | assumption | exact Below.refl _ _ | exact (Below.refl _ _).drew) (Nat.le_refl _); clear hbq)
    | (go_at_call 27; with_reducible refine (HH1.out _ (by first | assumption | exact Below.refl _ _ | exact (Below.refl _ _).drew)).mono ?_; rintro e w' ⟨v4, rfl, ho4, hbq⟩; obtain ⟨p4, c4, rfl, hr4⟩ := own_shape ho4; have HR4 := hid hr4; have hq2 : Below w1.heap.size w1 w' := below_more hbq (by first | assumption | exact Below.refl _ _ | exact (Below.refl _ _).drew) (Nat.le_refl _); clear hbq ho4 hr4)
    | (go_at_call 28; with_reducible refine (HH2.out _ (by first | assumption | exact Below.refl _ _ | exact (Below.refl _ _).drew)).mono ?_; rintro e w' ⟨rfl, hw'⟩; subst hw')
    | (go_at_call 26; with_reducible refine (HEQ.out _ (by first | assumption | exact Below.refl _ _ | exact (Below.refl _ _).drew) p4 c4 (by first | exact HR4.out | exact HR4.out.below (Below.refl _ _).drew)).mono ?_; rintro e w' ⟨rfl, hq⟩; have hq2 : Below w1.heap.size w1 w' := below_more (by obtain ⟨q, rfl⟩ := hq; exact below_drewN (Below.refl _ _) q) (by first | assumption | exact Below.refl _ _ | exact (Below.refl _ _).drew) (Nat.le_refl _); clear hq))
  all_goals (go_wp2_with fail; go_ret; exact ⟨rfl, HJ1.out.below (by assumption)⟩)
end Go.Proofs.Ytabkmdhkfbcldaa
namespace Go.Proofs.Ytabkmdhkfbcldaa
open Go.RowKit

theorem toList_bs (a : ByteArray) : a.toList = bsOf a := by rw [ByteArray.toList_eq]; rfl
theorem bs_inj {a b : ByteArray} (h : bsOf a = bsOf b) : a = b := by rw [← ofBs_bsOf a, ← ofBs_bsOf b, h]
theorem sortN_sorted (xs : List ByteArray) : (sortN xs).Pairwise (fun a b => bsOf a ≤ bsOf b) := by
  unfold sortN
  rw [List.pairwise_map]
  have h := List.pairwise_mergeSort (le := fun x y : List UInt8 => decide (x ≤ y)) (fun a b c h1 h2 => by
    simp only [decide_eq_true_eq] at h1 h2 ⊢; exact List.le_trans h1 h2) (fun a b => by
    simp only [Bool.or_eq_true, decide_eq_true_eq]; exact List.le_total a b) (xs.map bsOf)
  exact h.imp fun hab => by simpa [ofBs, bsOf] using hab
theorem told_all {vm : List (ByteArray × Int)} {S : Sh} (hnd : (vm.map Prod.fst).Nodup) (hv : ∀ k, alook vm k = S.get k) (hk : (S.rows.map Rw.key).Nodup) {xs : List ByteArray} (hp : xs.Perm (vm.map Prod.fst)) :
    (sortN xs).map (pairOf vm) = (allR S.rows S.rows.length).map (fun r => (r.key, r.val)) := by
  obtain ⟨p1, p2⟩ := allR_ok S.rows hk S.rows.length (Nat.le_refl _)
  rw [List.take_length] at p1
  have hvk : (vm.map Prod.fst).Perm (S.rows.map Rw.key) := (List.perm_ext_iff_of_nodup hnd hk).2 fun k => by rw [alook_mem, get_mem, hv]
  have hperm : (sortN xs).Perm ((allR S.rows S.rows.length).map Rw.key) := (((sortN_perm xs).trans hp).trans hvk).trans (p1.map _).symm
  have hA : ((allR S.rows S.rows.length).map Rw.key).Pairwise (fun a b => bsOf a ≤ bsOf b) := by
    rw [List.pairwise_map]
    exact p2.imp fun {a b} hab => by
      unfold ltK at hab
      rw [toList_bs, toList_bs] at hab
      exact List.le_of_lt hab
  have e := List.Perm.eq_of_pairwise (le := fun a b => bsOf a ≤ bsOf b) (fun a b _ _ h1 h2 => bs_inj (List.le_antisymm h1 h2)) (sortN_sorted xs) hA hperm
  rw [e, List.map_map]
  refine List.map_congr_left fun r hr => ?_
  have hg : S.get r.key = some r.val := by
    unfold Sh.get
    rw [rowAt_mem hk (p1.subset hr)]; rfl
  show (r.key, (alook vm r.key).getD 0) = (r.key, r.val)
  rw [hv, hg]; rfl
end Go.Proofs.Ytabkmdhkfbcldaa
namespace Go.Proofs.Ytabkmdhkfbcldaa
open Go.RowKit
variable {w w' : World}

theorem runJ20 {w0 : World} {bt t r tb rb kb M : Nat} {key : ByteArray} {K : Wk} (HK : WkOk K) (hM : M ≤ 399) (ho : ∀ k, (K.own k).length ≤ 60) :
    RunJ w0 K M bt t (fun S W => JSS w0 bt t r tb rb kb key K S S W) (fun S v W => JSS w0 bt t r tb rb kb key K (S.stepI K v) S W) 20 (fun v => #[.int .i64 v, .pointer (some ⟨rb, 0, none⟩), .pointer (some ⟨tb, 0, none⟩), .pointer (some ⟨kb, 0, none⟩)]) :=
  ⟨fun S W h => h.both.imp fun B ⟨R, hT, _⟩ => hT, fun S W h => h.b, fun S W W' h hb => h.below hb, fun S W v h hr => h.code HK hr hM ho v, fun S W v _ _ h hr => each20 h HK hr hM ho v rfl⟩
set_option maxRecDepth 40000 in
set_option maxHeartbeats 4000000 in
/-- Each step of any workers, in any order, does and tells what the document says. -/
theorem steps_walk (w : World) (n : Int) (hn : (Lit.int .i64 n).wf = true) (wp : Option Addr) (cw : Nat) (zs : List AkR)
    (hwk : zs.length ≤ cw ∧ cw ≤ maxLen ∧ (wp = none → cw = 0) ∧ Row w wp (zs.flatMap fun z : AkR => [Value.slice z.1 z.2.2.length z.2.1]) ∧ (∀ x ∈ zs, AsksOk w x) ∧ cw * Try.prog.bytesOf 71 ≤ 140737488351232)
    (kp : Option Addr) (kc : Nat) (ps : List Int)
    (hps : ps.length ≤ kc ∧ kc ≤ maxLen ∧ (kp = none → kc = 0) ∧ Row w kp (ps.map (Value.int .u8)) ∧ (∀ n ∈ ps, (Lit.int .u8 n).wf = true) ∧ kc * 1 ≤ 140737488351232) (key : ByteArray) (hkey : key.size ≤ 140737488351232) :
    Calls Try.prog 4 #[.int .i64 n, .slice wp zs.length cw, .slice kp ps.length kc, .string key] w fun e w' => e = .returned (.bool true) ∧ Below w.heap.size w w' := by
  obtain ⟨hA, hq⟩ := asks_of hwk
  obtain ⟨hp1, hp2, -, hp4, hp5, -⟩ := hps
  have HA := hid hA
  have HBG := hid begun_any
  have HFW := hid (fun (w1 : World) (hb : Below w.heap.size w w1) => few_any wp cw zs (hA.below hb) hq kp kc ps.length hp1 hp2)
  have HNW := hid (fun (w1 : World) (hb : Below w.heap.size w w1) => newT_any wp cw zs w1 (hA.below hb) n (wkOf zs n) (fun h => wkOf_new h))
  have HNR := hid (fun (w1 : World) (hb : Below w.heap.size w w1) => rnewT_any wp cw zs w1 (hA.below hb) (fun z hz => (hq z hz).1) w.heap.size hb.size hA.lts n (wkOf zs n) (fun h => wkOf_new h))
  obtain ⟨pn, hpn⟩ : ∃ pn : List Nat, pn = ps.map Int.toNat := ⟨_, rfl⟩
  have HPL : Hid (pn.length = ps.length) := by unfold Hid; rw [hpn, List.length_map]
  have HPU : Hid (∀ x ∈ pn, x ≤ 255) := fun x hx => by
    rw [hpn] at hx
    obtain ⟨y, hy, rfl⟩ := List.mem_map.1 hx
    have := wf_u8 (hp5 y hy)
    omega
  have HPR : Hid (Row w kp (pn.map (fun n : Nat => .int .u8 n))) := by
    have e : pn.map (fun n : Nat => Value.int .u8 n) = ps.map (Value.int .u8) := by
      rw [hpn, List.map_map]
      refine List.map_congr_left fun y hy => ?_
      have := wf_u8 (hp5 y hy)
      show Value.int .u8 (y.toNat : Nat) = .int .u8 y
      congr 1; omega
    unfold Hid; rw [e]; exact hp4
  rw [← HPL.out] at hp1
  have HFW2 : Hid (∀ (w1 : World), Below w.heap.size w w1 → Calls Try.prog 12 #[.slice wp zs.length cw, .slice kp pn.length kc] w1 (FewTell zs pn.length w1)) := fun w1 hb => by rw [HPL.out]; exact HFW.out w1 hb
  rw [← HPL.out]
  clear HFW hpn hp4 hp5 hA hq hwk HPL
  obtain ⟨W0, hW0⟩ : ∃ W0, W0 = w.alloc (.cells #[.string key] 9) := ⟨_, rfl⟩
  have HB0 : Hid (Below w.heap.size w W0) := by unfold Hid; rw [hW0]; exact (Below.refl _ _).alloc (Nat.le_refl _) _
  have HZ0 : Hid (W0.heap.size = w.heap.size + 1) := by unfold Hid; rw [hW0]; simp
  have HKB : Hid (W0.heap[w.heap.size]? = some (.cells #[.string key] 9 (0, 0))) := by unfold Hid; rw [hW0]; exact heap_alloc_new w _
  by_cases h0 : newTE n (lists zs) = 0
  · have H0 := hid h0
    rw [h0] at HNW HNR
    clear h0
    go_enter Try.func4, Try.ntmps4
    go_upto_region 1 with fail
    rw [← hW0]
    clear hW0
    go_upto_region 3 with (first
      | (go_at_call 7; (with_reducible refine (HBG.out _).mono ?_); rintro e w1 ⟨rfl, hb1⟩; have HB1 := hid hb1; clear hb1)
      | (go_at_call 12; (with_reducible refine (HFW2.out _ (HB0.out.trans (HB1.out.mono HB0.out.size))).mono ?_); rintro e w2 ⟨bf, rfl, hfo, hb2⟩; have HFO := hid hfo; have HB2 := hid (HB1.out.trans (hb2.mono HB1.out.size)); clear hfo hb2))
    · go_ret
      exact ⟨rfl, HB0.out.trans ((HB2.out.trans (HB1.out.mono HB2.out.size)).mono HB0.out.size)⟩
    rename (!bf) = false => hbf
    have HFE : Hid (FewOk zs pn.length) := HFO.out (by simpa using hbf)
    have HKK := hid (wkOf_ok HFE.out H0.out)
    have HKR := hid (wkOf_run HFE.out H0.out)
    have HKO := hid (wkOf_own HFE.out H0.out)
    have HPM : Hid (pn.length ≤ 1000000) := Nat.le_trans HFE.out.p (by omega)
    clear hbf HFO HFE
    generalize wkOf zs n = K at *
    have HB20 := hid (HB0.out.trans (HB2.out.mono HB0.out.size))
    go_upto_region 5 with (first
      | (go_at_call 13; (with_reducible refine (HNW.out _ HB20.out).mono ?_); rintro e w3 hnt; obtain ⟨t, B, rfl, hT, hfp, hb3⟩ := hnt.ok; have HT := hid hT; have HFP := hid hfp; have HBR := hid hb3; have HB3 := hid (HB20.out.trans (hb3.mono HB20.out.size)); have HB4 := hid (HB3.out.alloc HB3.out.size (.cells #[.pointer (some ⟨t, 0, none⟩)] 30)); clear hnt hT hfp hb3)
      | (go_at_call 14; (with_reducible refine (HNR.out _ HB4.out).mono ?_); rintro e w5 (⟨hz, -, -⟩ | ⟨-, r, R, rfl, hR, hRf, hb5⟩); exact absurd rfl hz; have HRR := hid hR; have HRF := hid hRf; have HBR5 := hid hb5; have HB5 := hid (HB4.out.trans (hb5.mono HB4.out.size)); clear hR hRf hb5))
    obtain ⟨W6, hW6⟩ : ∃ W6, W6 = w5.alloc (.cells #[.pointer (some ⟨r, 0, none⟩)] 34) := ⟨_, rfl⟩
    rw [← hW6]
    have hb6 : Below w5.heap.size w5 W6 := by rw [hW6]; exact (Below.refl _ _).alloc (Nat.le_refl _) _
    have hz0 := HB2.out.size
    have hzw : W0.heap.size = w.heap.size + 1 := HZ0.out
    have hz3 := HBR.out.size
    have hz5 := HBR5.out.size
    simp only [World.size_alloc] at hz5
    have HJ0 : Hid (JSS w w2.heap.size t r w3.heap.size w5.heap.size w.heap.size key K (Sh.start K) (Sh.start K) W6) := by
      have hb4 : Below w3.heap.size w3 (w3.alloc (.cells #[.pointer (some ⟨t, 0, none⟩)] 30)) := (Below.refl _ _).alloc (Nat.le_refl _) _
      have hb36 : Below w3.heap.size w3 W6 := hb4.trans ((HBR5.out.mono (by simp)).trans (hb6.mono (by omega)))
      have hlt := HT.out.is
      refine ⟨⟨B, R, ⟨HT.out.is.below hb36, HT.out.ok, HT.out.pr, HT.out.hv⟩, HRR.out.below hb6, fun b hb hR => ?_, fun b hb => ⟨fun hf => ?_, fun hf => ?_⟩⟩, ⟨⟨Nat.le_refl _, idle_start K⟩, start_ok K⟩, HB5.out.trans (hb6.mono HB5.out.size), ⟨?_, ?_, ?_⟩, by omega⟩
      · have h1 := hlt.fp_lt hb
        have h2 := HRF.out b hR
        simp at h2; omega
      · have h1 := hlt.fp_lt hf
        have h2 := HFP.out b hf
        rcases hb with rfl | rfl | rfl <;> omega
      · have h1 := HRF.out b hf
        have h2 := (HRR.out.fp_in hf).2
        simp at h1
        rcases hb with rfl | rfl | rfl <;> omega
      · exact (hb6.block _ (by omega)).trans ((HBR5.out.block _ (by simp)).trans (heap_alloc_new w3 _))
      · rw [hW6]; exact heap_alloc_new w5 _
      · exact (hb36.block _ (by omega)).trans ((HBR.out.block _ (by omega)).trans ((HB2.out.block _ (by omega)).trans HKB.out))
    have hb1 := HJ0.out.boxes
    have e1 : W6.cell? ⟨w3.heap.size, 0, none⟩ = some (.pointer (some ⟨t, 0, none⟩)) := cell_of_row _ _ 0 _ _ _ hb1.1
    have e2 : W6.cell? ⟨w5.heap.size, 0, none⟩ = some (.pointer (some ⟨r, 0, none⟩)) := cell_of_row _ _ 0 _ _ _ hb1.2.1
    have l1 := (Array.getElem?_eq_some_iff.1 hb1.1).1
    have l2 := (Array.getElem?_eq_some_iff.1 hb1.2.1).1
    clear hW6 hb6 hz0 hzw hz3 hz5 hb1
    generalize w3.heap.size = tb at *
    generalize w5.heap.size = rb at *
    generalize w2.heap.size = bt at *
    go_upto_region 9 with fail
    obtain ⟨B6, R6, h6, r6, -, -⟩ := HJ0.out.both
    have HWK1 := hid (fun (wx : World) (hb : Below W6.heap.size W6 wx) => workers_any (h6.is.below hb))
    have HWK2 := hid (fun (wx : World) (hb : Below W6.heap.size W6 wx) => rworkers (r6.below hb))
    have hdm : (Sh.start K).doneI K (-1) = true := by unfold Sh.doneI; simp
    have hdn : (Sh.start K).doneI K (K.work.length : Nat) = true := by unfold Sh.doneI; simp
    have hwm : (Sh.start K).waitsI K (-1) = false := by unfold Sh.waitsI; rw [hdm]; rfl
    have HDM := hid (fun (wx : World) (hb : Below W6.heap.size W6 wx) => done_any (h6.is.below hb) (-1))
    have HDN := hid (fun (wx : World) (hb : Below W6.heap.size W6 wx) => done_any (h6.is.below hb) (K.work.length : Nat))
    have HWM := hid (fun (wx : World) (hb : Below W6.heap.size W6 wx) => twaits_any (h6.is.below hb) HKK.out (-1))
    rw [hdm] at HDM
    rw [hdn] at HDN
    rw [hwm] at HWM
    have k1 : ∀ wx, Below W6.heap.size W6 wx → wx.cell? ⟨tb, 0, none⟩ = some (.pointer (some ⟨t, 0, none⟩)) := fun wx hb => (hb.cell (p := ⟨tb, 0, none⟩) l1).trans e1
    have k2 : ∀ wx, Below W6.heap.size W6 wx → wx.cell? ⟨rb, 0, none⟩ = some (.pointer (some ⟨r, 0, none⟩)) := fun wx hb => (hb.cell (p := ⟨rb, 0, none⟩) l2).trans e2
    have hne : (((K.work.length : Nat) : Int) != (K.work.length : Nat)) = false := by simp
    obtain ⟨kn, hkn⟩ : ∃ kn, kn = K.work.length := ⟨_, rfl⟩
    rw [← hkn] at HWK1 HWK2 HDN hne
    clear h6 r6 hdm hdn hwm hkn
    go_cut [70] (fun v wx => v = .bool false ∧ Below W6.heap.size W6 wx)
    case first =>
      go_region_held3 (fun w' => Below W6.heap.size W6 w') (first | (with_reducible assumption) | exact Below.refl _ _ | exact (Below.refl _ _).drew) (first
        | (go_at_call 15; with_reducible refine (HWK1.out _ (by first | assumption | exact Below.refl _ _ | exact (Below.refl _ _).drew)).mono ?_; rintro e w' ⟨rfl, hw'⟩; subst hw')
        | (go_at_call 16; with_reducible refine (HWK2.out _ (by first | assumption | exact Below.refl _ _ | exact (Below.refl _ _).drew)).mono ?_; rintro e w' ⟨rfl, hw'⟩; subst hw')
        | (go_at_call 17; with_reducible refine (HDM.out _ (by first | assumption | exact Below.refl _ _ | exact (Below.refl _ _).drew)).mono ?_; rintro e w' ⟨rfl, hq⟩; have hq2 : Below W6.heap.size W6 w' := below_more (by obtain ⟨q, rfl⟩ := hq; exact below_drewN (Below.refl _ _) q) (by first | assumption | exact Below.refl _ _ | exact (Below.refl _ _).drew) (Nat.le_refl _); clear hq)
        | (go_at_call 17; with_reducible refine (HDN.out _ (by first | assumption | exact Below.refl _ _ | exact (Below.refl _ _).drew)).mono ?_; rintro e w' ⟨rfl, hq⟩; have hq2 : Below W6.heap.size W6 w' := below_more (by obtain ⟨q, rfl⟩ := hq; exact below_drewN (Below.refl _ _) q) (by first | assumption | exact Below.refl _ _ | exact (Below.refl _ _).drew) (Nat.le_refl _); clear hq)
        | (go_at_call 18; with_reducible refine (HWM.out _ (by first | assumption | exact Below.refl _ _ | exact (Below.refl _ _).drew)).mono ?_; rintro e w' ⟨rfl, hbq⟩; have hq2 : Below W6.heap.size W6 w' := below_more hbq (by first | assumption | exact Below.refl _ _ | exact (Below.refl _ _).drew) (Nat.le_refl _); clear hbq))
      all_goals
        go_wp2_with fail
        go_meet
        exact ⟨rfl, by first | assumption | exact Below.drew (by assumption)⟩
    case rest =>
      obtain ⟨rfl, hb7⟩ := hcut
      have HJ7 := hid (HJ0.out.below hb7)
      have HRN := hid (run20_any (runJ20 HKK.out (by omega) HKO.out) HKK.out (by omega) HJ7.out HKR.out kp kc pn HPM.out HPU.out HPR.out)
      have e7 := k1 wc hb7
      clear hb7 k1 k2 e1 e2 l1 l2 hne HWK1 HWK2 HDM HDN HWM HJ0
      go_upto_region 14 with (go_at_call 19; (refine HRN.out.mono ?_); rintro e w8 ⟨rfl, S, hri, hend⟩; have HRI := hid hri; clear hri hend HRN)
      have hj8 := HRI.out.j
      obtain ⟨B8, R8, h8, r8, -, -⟩ := hj8.both
      have hso := hj8.ok
      have hbx8 := hj8.boxes
      have HB8 := hid hj8.b
      have e1 : w8.cell? ⟨tb, 0, none⟩ = some (.pointer (some ⟨t, 0, none⟩)) := cell_of_row _ _ 0 _ _ _ hbx8.1
      have e2 : w8.cell? ⟨rb, 0, none⟩ = some (.pointer (some ⟨r, 0, none⟩)) := cell_of_row _ _ 0 _ _ _ hbx8.2.1
      have l1 := (Array.getElem?_eq_some_iff.1 hbx8.1).1
      have hm := HRI.out.ok.m
      have hrl : S.rows.length ≤ 360 := by have := hso.1.rows; omega
      have hvm : B8.vm.length = S.rows.length := vm_len h8.is.vals.nodup h8.ok.keys h8.is.valIs
      have HRA := hid (rall r8 (by omega))
      have HCA := hid (fun (wx : World) (hb : Below w8.heap.size w8 wx) => all_any (h8.is.below hb) (by omega))
      have HK1 : Hid (∀ wx, Below w8.heap.size w8 wx → wx.cell? ⟨tb, 0, none⟩ = some (.pointer (some ⟨t, 0, none⟩))) := fun wx hb => (hb.cell (p := ⟨tb, 0, none⟩) l1).trans e1
      have HAL := hid (allR_len S.rows S.rows.length)
      have HTA := hid (fun (xs : List ByteArray) (hp : xs.Perm (B8.vm.map Prod.fst)) => told_all h8.is.vals.nodup h8.is.valIs h8.ok.keys hp)
      have HMN : Hid (∀ xs : List ByteArray, xs.Perm (B8.vm.map Prod.fst) → (sortN xs).length = S.rows.length) := fun xs hp => by
        have h1 := (sortN_perm xs).length_eq
        have h2 := hp.length_eq
        rw [List.length_map, hvm] at h2
        omega
      generalize allR S.rows S.rows.length = A at *
      generalize S.rows.length = N at *
      clear h8 r8 hso hbx8 hj8 hm hvm HRI e7
      go_upto_region 16 with (first
        | (go_at_call 29; (with_reducible refine HRA.out.mono ?_); rintro e w9 ⟨pa, ca, rfl, hra, hb9⟩; have HRW := hid hra; have HB9 := hid hb9; have e9 := HK1.out _ hb9; clear hra hb9)
        | (go_at_call 31; (with_reducible refine (HCA.out _ HB9.out).mono ?_); rintro e wa ⟨xs, px, cx, bm, rfl, hpm, hall, hba⟩; have HBA := hid (HB9.out.trans (hba.mono HB9.out.size)); have HBA9 := hid hba; have HXN := hid (HMN.out xs hpm); have HXT := hid (HTA.out xs hpm); have HTO := hid (told_any hall (by have := HMN.out xs hpm; omega) 9999 (by omega)); clear hpm hall hba)
        | (go_at_call 30; (refine HTO.out.mono ?_); rintro e wb ⟨vt, rfl, hot, hbt⟩; rw [HXN.out, show min 9999 N = N by omega, List.take_of_length_le (by rw [HXN.out]; omega), HXT.out] at hot; obtain ⟨pt, ct, rfl, hrt⟩ := own_shape hot; have HRT := hid hrt; have HBT := hid (HBA.out.trans (hbt.mono HBA.out.size)); have HRW2 := hid ((HRW.out.below HBA9.out).below hbt); clear hot hbt hrt))
      have hneN : (((N : Nat) : Int) != (N : Int)) = false := by simp
      have HBB := hid hrl
      clear HXN HXT HTO HTA e9 e1 e2 l1
      go_wp2_with fail
      go_loopw [89] (fun i wr => ∃ k : Nat, k ≤ N ∧ i = .int .i64 k ∧ Below wb.heap.size wb wr) (fun i _ => N - (intOf i).toNat)
      case atStart => exact ⟨0, by omega, rfl, Below.refl _ _⟩
      case round =>
        rename World => wr
        obtain ⟨k, hk, rfl, hbr⟩ := hrel
        have HBRR := hid hbr
        clear hbr
        by_cases hlt : k < N
        · have hkI : (k : Int) < N := by omega
          have hkA : k < A.length := by rw [HAL.out]; exact hlt
          obtain ⟨b1, o1, rfl, hb1, -⟩ := HRW2.out.at (by have := flat_len Rw.cells 3 (fun _ => rfl) A; omega)
          have hlen2 : ((A.map (fun r => (r.key, r.val))).map rwOf).length = A.length := by simp
          obtain ⟨b2, o2, rfl, hb2, -⟩ := HRT.out.at (by have := flat_len Rw.cells 3 (fun _ => rfl) ((A.map (fun r => (r.key, r.val))).map rwOf); omega)
          obtain ⟨x0, x1, -⟩ := row_fields (HRW2.out.below HBRR.out) k hkA
          obtain ⟨y0, y1, -⟩ := row_fields (HRT.out.below HBRR.out) k (by rw [hlen2]; exact hkA)
          simp only [List.getElem_map, rwOf] at y0 y1
          generalize A[k].key = ky at *
          generalize A[k].val = vv at *
          have h1 : (ky.toList == ky.toList) = true := by simp
          have h2 : (vv != vv) = false := by simp
          clear hlen2 hkA
          go_upto_region 21 with fail
          go_quiet (fail)
          go_wp2_with fail
          exact ⟨⟨k + 1, by omega, by go_num, below_drewN HBRR.out _⟩, by simp [intOf]; omega⟩
        · have hke : k = N := by omega
          subst hke
          have HB8R := hid (HBT.out.trans (HBRR.out.mono HBT.out.size))
          have e9 := HK1.out _ HB8R.out
          obtain ⟨m1, hm1, hmI, -, -⟩ := min_cast 1 k
          have hmI' : min (1 : Int) k = m1 := hmI
          have HM1 := hid hm1
          have heq : ((m1 : Int) == (m1 : Int)) = true := by simp
          clear hm1 hmI hneN
          go_wp2_with (first
            | (go_at_call 31; (with_reducible refine (HCA.out _ HB8R.out).mono ?_); rintro e wd ⟨xs2, px2, cx2, bm2, rfl, hpm, hall, hba⟩; have HBD := hid (HB8R.out.trans (hba.mono HB8R.out.size)); have HXN := hid (HMN.out xs2 hpm); have HTO2 := hid (told_any hall (by have := HMN.out xs2 hpm; omega) 1 (by omega)); clear hpm hall hba)
            | (go_at_call 30; (refine HTO2.out.mono ?_); rintro e we ⟨vt2, rfl, hot, hbt⟩; rw [HXN.out, ← HM1.out] at hot; obtain ⟨pt2, ct2, rfl, -⟩ := own_shape hot; have HBE := hid (HBD.out.trans (hbt.mono HBD.out.size)); clear hot hbt))
          go_ret
          exact ⟨rfl, HB8.out.trans (HBE.out.mono HB8.out.size)⟩
  · have H0 := hid h0
    generalize newTE n (lists zs) = te at *
    go_enter Try.func4, Try.ntmps4
    go_upto_region 1 with fail
    rw [← hW0]
    clear hW0
    go_wp2_with (first
      | (go_at_call 7; (with_reducible refine (HBG.out _).mono ?_); rintro e w1 ⟨rfl, hb1⟩; have HB1 := hid hb1; clear hb1)
      | (go_at_call 12; (with_reducible refine (HFW2.out _ (HB0.out.trans (HB1.out.mono HB0.out.size))).mono ?_); rintro e w2 ⟨bf, rfl, hfo, hb2⟩; have HB2 := hid (HB0.out.trans ((HB1.out.trans (hb2.mono HB1.out.size)).mono HB0.out.size)); clear hfo hb2)
      | (go_at_call 13; (with_reducible refine (HNW.out _ HB2.out).mono ?_); rintro e w3 (⟨-, rfl, hb3⟩ | ⟨hz, -⟩); rotate_left; exact (H0.out hz).elim; have HB3 := hid (HB2.out.trans (hb3.mono HB2.out.size)); have HB4 := hid (HB3.out.alloc HB3.out.size (.cells #[.pointer none] 30)); clear hb3)
      | (go_at_call 14; (with_reducible refine (HNR.out _ HB4.out).mono ?_); rintro e w5 (⟨-, rfl, hb5⟩ | ⟨hz, -⟩); rotate_left; exact (H0.out hz).elim; have HB5 := hid (HB4.out.trans (hb5.mono HB4.out.size)); have tbh := (hb5.block w3.heap.size (by simp)).trans (heap_alloc_new w3 (.cells #[.pointer none] 30)); have tbc : w5.cell? ⟨w3.heap.size, 0, none⟩ = some (.pointer none) := cell_of_row _ _ 0 _ _ _ tbh; have tbl : w3.heap.size < w5.heap.size := (Array.getElem?_eq_some_iff.1 tbh).1; have hte0 : (te != 0) = true := (by simpa using H0.out); clear hb5 tbh))
    · go_ret
      exact ⟨rfl, HB2.out.trans (HB1.out.mono HB2.out.size)⟩
    · go_ret
      exact ⟨rfl, HB5.out.alloc HB5.out.size _⟩
end Go.Proofs.Ytabkmdhkfbcldaa
