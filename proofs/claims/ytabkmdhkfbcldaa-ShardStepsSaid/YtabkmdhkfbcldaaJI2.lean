/-
  run: workers go on as picks say, and then in turn, till nobody can (printed by genrun.py).
  A range over a function within an iterator: an iterator's contract whose own steps may turn blocks of book-keeping that it laid itself; the law of the loop over it.
  A range over a map within a fence, the map's block as it lies: its beginning, its step; what is left of a map.
-/
import Derived.Test.YtabkmdhkfbcldaaJI0
import Derived.RangeFuncNested
import Derived.RangeFuncBound
import Derived.RangeFuncCalls
import Derived.RangeFuncLeaves
import Derived.Test.YtabkmdhkfbcldaaJH0
import Derived.Maps.RangeRun
import Derived.OwnWalkIn
namespace Go.Proofs.Ytabkmdhkfbcldaa
open Go.RowKit
variable {w w' : World} {K : Wk}

/-- What run wants of the table, of a step and of what is called behind each. -/
structure RunJ (w0 : World) (K : Wk) (M base t : Nat) (J : Sh → World → Prop) (J1 : Sh → Int → World → Prop) (g : Nat) (ar : Int → Array Value) : Prop where
  tok : ∀ S W, J S W → ∃ B, TOk W base t K S B
  bel : ∀ S W, J S W → Below w0.heap.size w0 W
  below : ∀ S W W', J S W → Below W.heap.size W W' → J S W'
  step : ∀ S W (v : Int), J S W → RunOk K M S → Calls Try.prog 33 #[.pointer (some ⟨t, 0, none⟩), .int .i64 v] W fun e W' => e = .returned (.tuple #[]) ∧ J1 S v W'
  each : ∀ S W (v : Int), 0 ≤ v → v ≤ K.work.length → J1 S v W → RunOk K M S → Calls Try.prog g (ar v) W fun e W' => e = .returned (.bool true) ∧ J (S.stepI K v) W'
structure RunI (K : Wk) (M : Nat) (J : Sh → World → Prop) (S S' : Sh) (W : World) : Prop where
  j : J S' W
  ok : RunOk K M S'
  r : Reach K S S'
def RunPost (K : Wk) (M : Nat) (J : Sh → World → Prop) (S : Sh) (e : Ending) (w' : World) : Prop :=
  e = .returned (.bool true) ∧ ∃ S', RunI K M J S S' w' ∧ ∀ v, v < K.work.length → S'.canN K v = false
theorem RunI.below {w0 : World} {M base t g : Nat} {J : Sh → World → Prop} {J1 : Sh → Int → World → Prop} {ar : Int → Array Value} {S S' : Sh} {W W' : World} (H : RunJ w0 K M base t J J1 g ar) (h : RunI K M J S S' W) (hb : Below W.heap.size W W') : RunI K M J S S' W' :=
  ⟨H.below _ _ _ h.j hb, h.ok, h.r⟩
theorem RunI.next {M : Nat} {J : Sh → World → Prop} {S S' : Sh} {W W' : World} (HO : ∀ k, K.of k < K.shards) (h : RunI K M J S S' W) (v : Int) (hj : J (S'.stepI K v) W') : RunI K M J S (S'.stepI K v) W' :=
  ⟨hj, h.ok.stepI HO v, h.r.trans (Reach.stepI h.ok.ok v)⟩
theorem stepI_nat (S : Sh) (v : Nat) : S.stepI K (v : Int) = S.stepN K v := by unfold Sh.stepI; rw [if_neg (by omega), Int.toNat_natCast]
theorem doneI_nat (S : Sh) (v : Nat) (hv : v < K.work.length) : S.doneI K (v : Int) = S.doneN K v := by
  unfold Sh.doneI
  rw [Int.toNat_natCast, decide_eq_false (by omega : ¬ (v : Int) < 0), decide_eq_false (by omega : ¬ (K.work.length : Int) ≤ v)]; rfl
theorem waitsI_nat (S : Sh) (v : Nat) (hv : v < K.work.length) (hd : S.doneN K v = false) : S.waitsI K (v : Int) = S.waitsN K v := by
  unfold Sh.waitsI; rw [doneI_nat S v hv, hd, Int.toNat_natCast]; rfl

set_option maxRecDepth 40000 in
set_option maxHeartbeats 4000000 in
theorem run32_any {w0 : World} {M base t : Nat} {J : Sh → World → Prop} {J1 : Sh → Int → World → Prop} (HJ : RunJ w0 K M base t J J1 32 (fun v => #[.int .i64 v])) (HK : WkOk K) (hM : M ≤ 399) {S : Sh} (hj : J S w) (hok : RunOk K M S)
    (p : Option Addr) (c : Nat) (picks : List Nat) (hl : picks.length ≤ 1000000) (hu : ∀ n ∈ picks, n ≤ 255) (hr : Row w0 p (picks.map (fun n : Nat => .int .u8 n))) :
    Calls Try.prog 19 #[.pointer (some ⟨t, 0, none⟩), .slice p picks.length c, .func (.func 32) #[] #[]] w (RunPost K M J S) := by
  have HI0 : Hid (RunI K M J S S w) := ⟨hj, hok, Reach.refl S⟩
  have HJJ := hid HJ
  have HU := hid hu
  have HO := hid (TabIs.shLt HK)
  have HWK := hid (fun S W (h : J S W) => (HJ.tok S W h).elim fun B hT => workers_any hT.is)
  have HDN := hid (fun S W (h : J S W) (v : Int) => (HJ.tok S W h).elim fun B hT => done_any hT.is v)
  have HWT := hid (fun S W (h : J S W) (v : Int) => (HJ.tok S W h).elim fun B hT => twaits_any hT.is HK v)
  have HST := hid HJ.step
  have HEA : Hid (∀ S W (v : Int), 0 ≤ v → v ≤ K.work.length → J1 S v W → RunOk K M S → Calls Try.prog 32 #[.int .i64 v] W fun e W' => e = .returned (.bool true) ∧ J (S.stepI K v) W') := HJ.each
  have hn := HK.wn
  obtain ⟨n, hnn⟩ : ∃ n : Nat, n = K.work.length := ⟨_, rfl⟩
  have HN := hid hnn
  rw [← hnn] at hn HWK HEA
  clear hnn HJ hj hok hu HK
  go_enter Try.func19, Try.ntmps19
  go_wp2_with fail
  go_loopw [14] (fun i wr => ∃ (k : Nat) (S' : Sh), k ≤ picks.length ∧ i = .int .i64 k ∧ RunI K M J S S' wr) (fun i _ => picks.length - (intOf i).toNat)
  case atStart => exact ⟨0, S, by omega, rfl, HI0.out⟩
  case round =>
    rename World => wx
    obtain ⟨k, S1, hk, rfl, hri⟩ := hrel
    have HRI := hid hri
    clear hri HI0
    by_cases hlt : k < picks.length
    · obtain ⟨b, o, rfl, _, hcell⟩ := (hr.below (HJJ.out.bel _ _ HRI.out.j)).at (by simp; omega)
      have hck := hcell k (by simpa using hlt)
      simp only [List.getElem_map] at hck
      have hx := HU.out _ (List.getElem_mem hlt)
      have hkI : (k : Int) < picks.length := by omega
      clear hcell
      generalize picks[k] = x at *
      obtain ⟨v, hv⟩ : ∃ v : Int, (x : Int).tmod ((n : Int) + 1) = v := ⟨_, rfl⟩
      have hn1 : ¬ ((n : Int) + 1) = 0 := by omega
      have hv0 : 0 ≤ v := by rw [← hv]; exact Int.tmod_nonneg _ (by omega)
      have hv1 : v < (n : Int) + 1 := by rw [← hv]; exact Int.tmod_lt_of_pos _ (by omega)
      have hv2 : v ≤ n := by omega
      have HV2 := hid (And.intro hv0 hv2)
      have hwv : IntKind.i64.wrap v = v := IntWalk.i64_in _ (by omega)
      have hwx : IntKind.i64.wrap (x : Int) = x := IntWalk.i64_in _ (by omega)
      have HVI := hid (HRI.out.next HO.out v (W' := wx))
      go_wp2_with (first
        | (go_at_call 15; (with_reducible refine (HWK.out _ _ HRI.out.j).mono ?_); rintro e w2 ⟨rfl, hw2⟩; subst hw2)
        | (go_at_call 33; (with_reducible refine (HST.out _ _ _ HRI.out.j HRI.out.ok).mono ?_); rintro e w3 ⟨rfl, hj3⟩; have HJ3 := hid hj3; clear hj3)
        | (go_at_call 32; (with_reducible refine (HEA.out _ _ _ HV2.out.1 HV2.out.2 HJ3.out HRI.out.ok).mono ?_); rintro e w4 ⟨rfl, hj4⟩; have HJ4 := hid hj4; clear hj4))
      exact ⟨⟨k + 1, _, by omega, by go_num, HRI.out.next HO.out v HJ4.out⟩, by simp [intOf]; omega⟩
    · have hke : k = picks.length := by omega
      subst hke
      go_wp2_with fail
      go_loopw [32] (fun i wr => ∃ (r : Nat) (S' : Sh), r ≤ 400 ∧ i = .int .i64 r ∧ RunI K M J S S' wr ∧ r ≤ S'.steps) (fun i _ => 400 - (intOf i).toNat)
      case atStart => exact ⟨0, S1, by omega, rfl, HRI.out, by omega⟩
      case round =>
        rename World => wy
        obtain ⟨r, S2, hr4, rfl, hri2, hrs⟩ := hrel
        have HR2 := hid hri2
        have HRS := hid hrs
        have hr3 : r ≤ 399 := by have := hri2.ok.m; omega
        clear hri2 hrs HRI
        have hrI : (r : Int) < 400 := by omega
        go_wp2_with (go_at_call 15; (with_reducible refine (HWK.out _ _ HR2.out.j).mono ?_); rintro e w2 ⟨rfl, hw2⟩; subst hw2)
        go_loopw [10, 36] (fun mv i wr => ∃ (j : Nat) (S' : Sh) (b : Bool), j ≤ n ∧ i = .int .i64 j ∧ mv = .bool b ∧ RunI K M J S S' wr ∧ (b = false → S' = S2 ∧ ∀ v, v < j → S2.canN K v = false) ∧ (b = true → r + 1 ≤ S'.steps)) (fun _ i _ => n - (intOf i).toNat)
        case atStart => exact ⟨0, S2, false, by omega, rfl, rfl, HR2.out, fun _ => ⟨rfl, fun v hv => (by omega)⟩, fun h => (by cases h)⟩
        case round =>
          rename World => wz
          obtain ⟨j, S3, b, hj, rfl, rfl, hri3, hb0, hb1⟩ := hrel
          have HR3 := hid hri3
          have HB := hid (And.intro hb0 hb1)
          clear hri3 hb0 hb1
          by_cases hjn : j < n
          · have hjI : (j : Int) < n := by omega
            have hjw : j < K.work.length := by rw [← HN.out]; exact hjn
            have hdw := doneI_nat S3 j hjw
            have HD3 := hid (HDN.out _ _ HR3.out.j (j : Int))
            have HW3 := hid (fun q => HWT.out _ _ (HJJ.out.below _ _ _ HR3.out.j (below_drewN (Below.refl _ _) q)) (j : Int))
            rw [hdw] at HD3
            cases hd : S3.doneN K j with
            | true =>
              rw [hd] at HD3
              have hc : S3.canN K j = false := by unfold Sh.canN; rw [hd]; rfl
              have HC := hid hc
              clear hdw hd hc
              go_wp2_with (go_at_call 17; (with_reducible refine HD3.out.mono ?_); rintro e w3 ⟨rfl, qd, rfl⟩)
              refine ⟨⟨j + 1, S3, b, by omega, by go_num, rfl, HR3.out.below HJJ.out (below_drewN (Below.refl _ _) _), fun h => ⟨(HB.out.1 h).1, fun v hv => ?_⟩, HB.out.2⟩, by simp [intOf]; omega⟩
              by_cases e : v = j
              · subst e; rw [← (HB.out.1 h).1]; exact HC.out
              · exact (HB.out.1 h).2 v (by omega)
            | false =>
              rw [hd] at HD3
              have hww := waitsI_nat S3 j hjw hd
              rw [hww] at HW3
              cases hw : S3.waitsN K j with
              | true =>
                rw [hw] at HW3
                have hc : S3.canN K j = false := by unfold Sh.canN; rw [hw]; simp
                have HC := hid hc
                clear hdw hd hc hw hww
                go_wp2_with (first
                  | (go_at_call 17; (with_reducible refine HD3.out.mono ?_); rintro e w3 ⟨rfl, qd, rfl⟩)
                  | (go_at_call 18; (with_reducible refine (HW3.out _).mono ?_); rintro e w4 ⟨rfl, hb4⟩; have hb4' : Below wz.heap.size wz w4 := (below_drewN (Below.refl _ wz) qd).trans (hb4.mono (Nat.le_refl _)); have HJB := hid (HJJ.out.below _ _ _ HR3.out.j hb4'); have HB4 := hid hb4'; clear hb4 hb4'))
                refine ⟨⟨j + 1, S3, b, by omega, by go_num, rfl, HR3.out.below HJJ.out HB4.out, fun h => ⟨(HB.out.1 h).1, fun v hv => ?_⟩, HB.out.2⟩, by simp [intOf]; omega⟩
                by_cases e : v = j
                · subst e; rw [← (HB.out.1 h).1]; exact HC.out
                · exact (HB.out.1 h).2 v (by omega)
              | false =>
                rw [hw] at HW3
                have hc : S3.canN K j = true := by unfold Sh.canN; rw [hd, hw]; rfl
                have HST3 : Hid ((S3.stepI K (j : Int)).steps = S3.steps + 1) := by unfold Hid; rw [stepI_nat]; exact (left_step HR3.out.ok.ok hjw hc).2
                have HBS : Hid (r ≤ S3.steps) := by
                  unfold Hid
                  cases hbb : b with
                  | false => rw [(HB.out.1 hbb).1]; exact HRS.out
                  | true => have := HB.out.2 hbb; omega
                have hjw2 : (0 : Int) ≤ j ∧ (j : Int) ≤ n := by omega
                have HJW := hid hjw2
                clear hdw hd hc hw hww hjw hjw2
                go_wp2_with (first
                  | (go_at_call 17; (with_reducible refine HD3.out.mono ?_); rintro e w3 ⟨rfl, qd, rfl⟩)
                  | (go_at_call 18; (with_reducible refine (HW3.out _).mono ?_); rintro e w4 ⟨rfl, hb4⟩; have hb4' : Below wz.heap.size wz w4 := (below_drewN (Below.refl _ wz) qd).trans (hb4.mono (Nat.le_refl _)); have HJB := hid (HJJ.out.below _ _ _ HR3.out.j hb4'); have HB4 := hid hb4'; clear hb4 hb4')
                  | (go_at_call 33; (with_reducible refine (HST.out _ _ _ HJB.out HR3.out.ok).mono ?_); rintro e w5 ⟨rfl, hj5⟩; have HJ5 := hid hj5; clear hj5)
                  | (go_at_call 32; (with_reducible refine (HEA.out _ _ _ HJW.out.1 HJW.out.2 HJ5.out HR3.out.ok).mono ?_); rintro e w6 ⟨rfl, hj6⟩; have HJ6 := hid hj6; clear hj6))
                exact ⟨⟨j + 1, _, true, by omega, by go_num, rfl, HR3.out.next HO.out (j : Int) HJ6.out, fun h => (by cases h), fun _ => (by rw [HST3.out]; have := HBS.out; omega)⟩, by simp [intOf]; omega⟩
          · have hje : j = n := by omega
            subst hje
            cases b with
            | false =>
              go_wp2_with fail
              go_ret
              refine ⟨by first | rfl | trivial, S3, HR3.out, fun v hv => ?_⟩
              have hb := HB.out.1 (by first | rfl | trivial)
              rw [hb.1]
              exact hb.2 v (by rw [HN.out]; exact hv)
            | true =>
              go_wp2_with fail
              exact ⟨⟨r + 1, S3, by omega, by go_num, HR3.out, HB.out.2 (by first | rfl | trivial)⟩, by simp [intOf]; omega⟩
end Go.Proofs.Ytabkmdhkfbcldaa
namespace Go.Proofs.Ytabkmdhkfbcldaa
open Go.RowKit

/-- As the library's contract, but the iterator may turn whatever is no cells and lies at or beyond its beginning; a round leaves such blocks. -/
def SeqO {α : Type} (F : Fence) (n : Nat) (P : Program) (g : Nat) (lb : Array Value) (encs : α → Array Value) (Kp : World → World → Prop) (S Sp : List α → Prop) (N : Nat) (w : World) : Prop :=
  ∀ (l : Nat) (J Jx : List α → World → Prop) (W : World), Below w.heap.size w W → OwnFrom W.heap.size J → OwnFrom W.heap.size Jx →
    (∀ pre x W1, J pre W1 → pre.length < N → YieldAt F (n - 1) P l (encs x) W1 fun e W' =>
      ((e = .returned (.bool true) ∧ J (pre ++ [x]) W' ∧ Kp W1 W') ∨ (e = .returned (.bool false) ∧ Jx (pre ++ [x]) W')) ∧ KeepsFrom W.heap.size W1 W') →
    J [] W →
    CallsIn F n P g (#[.func (.yield l) #[] #[]] ++ lb) W fun e W' => (∃ v, e = .returned v) ∧ ((∃ xs, S xs ∧ J xs W') ∨ (∃ pre, Sp pre ∧ Jx pre W'))

variable {F : Fence} {n : Nat} {P : Program}

theorem wpIn_rangeFunc_O {α : Type} {g : Operand} {ps : Array Tmp} {assign body : Code} {Q : Exit → Act → World → Prop} {a : Act} {w : World}
    (hro : F.round = none) (h1 : 1 ≤ n) {gf : Nat} {lb : Array Value} (hg : a.eval g = .func (.func gf) #[] lb) (hFg : F.fn gf) (eg : ∀ args w, (callFunc gf args).run P w = .ok (.enter gf args) w)
    {encs : α → Array Value} {Kp : World → World → Prop} {S Sp : List α → Prop} {N : Nat} {w0 : World} (hseq : SeqO F (n - 1) P gf lb encs Kp S Sp N w0)
    (hKt : ∀ {A B C : World}, Kp A B → Kp B C → Kp A C) (hKb : ∀ (W : World) (l : Nat) (o o' : Obj), w.heap.size ≤ l → W.heap[l]? = some o → o.isCells = false → o.isWalk = false → Kp W (W.putObj l o')) (hb0 : Below w0.heap.size w0 w) (hps : ∀ x, (encs x).size = ps.size)
    (I : List α → World → Prop) (Ix : Code → List α → World → Prop) (hI : OwnFrom w.heap.size I) (hIx : ∀ c, OwnFrom w.heap.size (Ix c)) (h0 : I [] w) (a₁ : α → Act)
    (hassign : ∀ (l : Nat) (x : α) (W : World) (K : Act → World → Prop), K (a₁ x) W →
      assign.wpIn (F.inRound l) (n - 1 - 1) P (Exit.then K (fun _ _ _ => False)) { tmps := (ps.zip (encs x)).foldl (fun t (p, v) => t.setIfInBounds p v) a.tmps, defers := [] } W)
    (hbody : ∀ (l : Nat) (pre : List α) (x : α) (W : World), I pre W → pre.length < N → body.wpIn (F.inRound l) (n - 1 - 1) P (ownPostG w.heap.size Kp I Ix (pre ++ [x]) W) (a₁ x) W)
    (hdone : ∀ (xs : List α) (W : World), S xs → I xs W → W.heap[w.heap.size]? = some (.deferred (some [])) → Q .normal { a with defers := { target := .collected w.heap.size, args := #[] } :: a.defers } W)
    (hstop : ∀ (c : Code) (pre : List α) (W : World), Sp pre → Ix c pre W → W.heap[w.heap.size]? = some (.deferred (some [])) → c.wpIn F n P Q { a with defers := { target := .collected w.heap.size, args := #[] } :: a.defers } W) :
    (Code.rangeFunc g ps assign body).wpIn F n P Q a w := by
  refine wpIn_rangeFunc ?_
  intro fn hfn
  rw [hro]
  obtain ⟨rec, hrec⟩ : ∃ rec : LoopState → Option Code → Loop, rec = fun st pe => { state := st, pending := pe, fn, tmps := a.tmps, params := ps, assign, body, defers := w.heap.size } := ⟨_, rfl⟩
  obtain ⟨W1, hW1⟩ : ∃ W1, (w.alloc (.deferred (some []))).alloc (.loop (rec .ready none)) = W1 := ⟨_, rfl⟩
  have hL1 : W1.heap[w.heap.size + 1]? = some (.loop (rec .ready none)) := by
    rw [← hW1]; have := World.alloc_heap_new (w.alloc (.deferred (some []))) (.loop (rec .ready none)); rwa [World.size_alloc] at this
  have hK1 : W1.heap[w.heap.size]? = some (.deferred (some [])) := by
    rw [← hW1]; exact (Below.heap_alloc _ _ _ (by simp)).trans (World.alloc_heap_new w _)
  have hs1 : W1.heap.size = w.heap.size + 2 := by rw [← hW1]; simp
  have hI1 : I [] W1 := by rw [← hW1]; exact hI.alloc _ (hI.alloc _ h0)
  have hb1 : Below w0.heap.size w0 W1 := by
    rw [← hW1]; exact hb0.trans ((((Below.refl _ w).alloc (Nat.le_refl _) _).alloc (by simp) _).mono hb0.size)
  refine ⟨w.heap.size + 1, [{ target := .collected w.heap.size, args := #[] }], W1, { target := .fn (.func gf) lb, args := #[.func (.yield (w.heap.size + 1)) #[] #[]] }, W1, gf,
    #[.func (.yield (w.heap.size + 1)) #[] #[]] ++ lb, W1, ?_, ?_, ?_, ?_, fun _ => h1, ?_⟩
  · rw [← hW1, hrec]; exact run_enterLoop_outer _ _ _ _ _
  · simp only [resolve, hg]
    simp [go_sem]
  · intro f' hf'; simp [Target.leads] at hf'; subst hf'; exact hFg
  · simp [invoke, go_sem, eg]
  · have hnw : ∀ {A : World} {row : Option Nat}, (∀ r, row = some r → W1.heap.size ≤ r ∧ ∃ o : Obj, A.heap[r]? = some o ∧ o.isCells = false) → (∀ r, row = some r → w.heap.size ≤ r ∧ ∃ o : Obj, A.heap[r]? = some o ∧ o.isCells = false) :=
      fun hr r e => ⟨by have := (hr r e).1; omega, (hr r e).2⟩
    have hst : ∀ {A B : World} {row : Option Nat} {k : Nat} {o : Obj}, A.grownBy B row → (∀ r, row = some r → W1.heap.size ≤ r ∧ ∃ o : Obj, A.heap[r]? = some o ∧ o.isCells = false) → k < W1.heap.size → A.heap[k]? = some o → B.heap[k]? = some o :=
      fun hg hr hk h => (hg.block _ (Array.getElem?_eq_some_iff.1 h).1 (fun e => by have := (hr _ e.symm).1; omega)).trans h
    refine (hseq (w.heap.size + 1)
      (fun pre W => I pre W ∧ W.heap[w.heap.size + 1]? = some (.loop (rec .ready none)) ∧ W.heap[w.heap.size]? = some (.deferred (some [])))
      (fun pre W => ∃ c, Ix c pre W ∧ W.heap[w.heap.size + 1]? = some (.loop (rec .done (some c))) ∧ W.heap[w.heap.size]? = some (.deferred (some [])))
      W1 hb1
      (fun s A B row hs hg' hr => ⟨hI s A B row hs.1 hg' (hnw hr), hst hg' hr (by omega) hs.2.1, hst hg' hr (by omega) hs.2.2⟩)
      (fun s A B row hs hg' hr => by
        obtain ⟨c, hc, hl, hk⟩ := hs
        exact ⟨c, hIx c s A B row hc hg' (hnw hr), hst hg' hr (by omega) hl, hst hg' hr (by omega) hk⟩)
      ?_ ⟨hI1, hL1, hK1⟩).mono ?_
    · -- ONE ROUND
      rintro pre x W ⟨hi, hl, hk⟩ hlen
      have hlt : w.heap.size + 1 < W.heap.size := (Array.getElem?_eq_some_iff.1 hl).1
      have hy := run_yield (P := P) (args := encs x) hl (by rw [hrec]; exact hps x)
      rw [hrec] at hy
      refine ⟨fn, _, assign, body, hy, roundIn_of_wpIn hfn (hassign _ x W _ ⟨_, run_beginRound hl (by rw [hrec]), ?_⟩)⟩
      have hl2 : (W.putObj (w.heap.size + 1) (.loop { rec .ready none with state := .busy })).heap[w.heap.size + 1]? = some (.loop { rec .ready none with state := .busy }) := World.putObj_heap_same hlt
      have hk2 : (W.putObj (w.heap.size + 1) (.loop { rec .ready none with state := .busy })).heap[w.heap.size]? = some (.deferred (some [])) := (World.putObj_heap_other (by omega)).trans hk
      have hw2 : Kp W (W.putObj (w.heap.size + 1) (.loop { rec .ready none with state := .busy })) := hKb _ _ _ _ (by omega) hl rfl rfl
      refine wpIn_mono (hbody _ pre x _ (hI.putObj _ hi (by omega) hl rfl) hlen) ?_
      have fin : ∀ (jump : Option Code) (W3 : World), KeepsFrom w.heap.size (W.putObj (w.heap.size + 1) (.loop { rec .ready none with state := .busy })) W3 →
          (Instr.endRound (w.heap.size + 1) jump).run P W3 = .ok (.bool jump.isNone) (W3.putObj (w.heap.size + 1) (.loop (rec (if jump.isNone then .ready else .done) jump))) ∧
          W3.heap[w.heap.size + 1]? = some (.loop { rec .ready none with state := .busy }) ∧
          (W3.putObj (w.heap.size + 1) (.loop (rec (if jump.isNone then .ready else .done) jump))).heap[w.heap.size + 1]? = some (.loop (rec (if jump.isNone then .ready else .done) jump)) ∧
          (W3.putObj (w.heap.size + 1) (.loop (rec (if jump.isNone then .ready else .done) jump))).heap[w.heap.size]? = some (.deferred (some [])) := fun jump W3 hk3 => by
        have hl3 := hk3.same _ _ (by omega) hl2 rfl
        have := run_endRound (P := P) jump hl3
        rw [hrec] at this ⊢
        exact ⟨this, by rw [hrec] at hl3; exact hl3, World.putObj_heap_same (Array.getElem?_eq_some_iff.1 hl3).1, (World.putObj_heap_other (by omega)).trans (hk3.same _ _ (Nat.le_refl _) hk2 rfl)⟩
      have hput : ∀ (W : World) (o : Obj), KeepsFrom W1.heap.size W (W.putObj (w.heap.size + 1) o) := fun W o => KeepsFrom.of_grownBy (grownBy_putObj' W _ o) (fun j e => by cases e; omega)
      rintro e a3 W3 hp
      cases e with
      | normal =>
        obtain ⟨hk3, hkp3, hi3⟩ := hp
        obtain ⟨hr, hl3, hl4, hk4⟩ := fin none W3 hk3
        exact ⟨_, _, hr, .inl ⟨rfl, ⟨hI.putObj _ hi3 (by omega) hl3 rfl, hl4, hk4⟩, hKt (hKt hw2 hkp3) (hKb _ _ _ _ (by omega) hl3 rfl rfl)⟩, ((hput _ _).trans ⟨hk3.size, fun k o hB => hk3.same k o (by omega)⟩).trans (hput _ _)⟩
      | ret =>
        obtain ⟨hk3, hi3⟩ := hp
        obtain ⟨hr, hl3, hl4, hk4⟩ := fin (some .ret) W3 hk3
        exact ⟨_, _, hr, .inr ⟨rfl, .ret, (hIx _).putObj _ hi3 (by omega) hl3 rfl, hl4, hk4⟩, ((hput _ _).trans ⟨hk3.size, fun k o hB => hk3.same k o (by omega)⟩).trans (hput _ _)⟩
      | exit id =>
        obtain ⟨hk3, hi3⟩ := hp
        obtain ⟨hr, hl3, hl4, hk4⟩ := fin (some (.exit id)) W3 hk3
        exact ⟨_, _, hr, .inr ⟨rfl, .exit id, (hIx _).putObj _ hi3 (by omega) hl3 rfl, hl4, hk4⟩, ((hput _ _).trans ⟨hk3.size, fun k o hB => hk3.same k o (by omega)⟩).trans (hput _ _)⟩
      | goto t =>
        obtain ⟨hk3, hi3⟩ := hp
        obtain ⟨hr, hl3, hl4, hk4⟩ := fin (some (.goto t)) W3 hk3
        exact ⟨_, _, hr, .inr ⟨rfl, .goto t, (hIx _).putObj _ hi3 (by omega) hl3 rfl, hl4, hk4⟩, ((hput _ _).trans ⟨hk3.size, fun k o hB => hk3.same k o (by omega)⟩).trans (hput _ _)⟩
      | panic ch => exact hp.elim
      | outgrown => exact hp.elim
    · -- BEHIND THE ITERATOR
      rintro e W2 ⟨⟨v, rfl⟩, (⟨xs, hS, hi, hl, hk⟩ | ⟨pre, hSp, c, hi, hl, hk⟩)⟩
      · exact ⟨none, _, by have := run_endLoop (P := P) hl (by rw [hrec]; simp); rw [hrec] at this; exact this, hdone xs _ hS (hI.putObj _ hi (by omega) hl rfl) ((World.putObj_heap_other (by omega)).trans hk)⟩
      · exact ⟨some c, _, by have := run_endLoop (P := P) hl (by rw [hrec]; simp); rw [hrec] at this; exact this, hstop c pre _ hSp ((hIx c).putObj _ hi (by omega) hl rfl) ((World.putObj_heap_other (by omega)).trans hk)⟩

/-- What lay below n₀ lies on; each cell of type T lies on. -/
def KpO (n₀ : Nat) (T : TypeId) (W W' : World) : Prop := Below n₀ W W' ∧ W.heap.size ≤ W'.heap.size ∧ ∀ (k : Nat) (cs : Array Value) (fz : Nat × Nat), W.heap[k]? = some (.cells cs T fz) → W'.heap[k]? = some (.cells cs T fz)
theorem KpO.trans {n₀ : Nat} {T : TypeId} {A B C : World} (h : KpO n₀ T A B) (k : KpO n₀ T B C) : KpO n₀ T A C := ⟨h.1.trans k.1, Nat.le_trans h.2.1 k.2.1, fun i cs fz hi => k.2.2 i cs fz (h.2.2 i cs fz hi)⟩
theorem KpO.putObj {n₀ : Nat} {T : TypeId} {w : World} (hn : n₀ ≤ w.heap.size) (W : World) (l : Nat) (o o' : Obj) (hl : w.heap.size ≤ l) (h : W.heap[l]? = some o) (hc : o.isCells = false) (hw : o.isWalk = false) : KpO n₀ T W (W.putObj l o') :=
  ⟨belowK_b hn W l o o' hl h hc hw, by simp, fun k cs fz hk => (World.putObj_heap_other (fun e => by subst e; rw [hk] at h; cases h; simp [Obj.isCells] at hc)).trans hk⟩
theorem KpO.alloc {n₀ : Nat} {T : TypeId} (W : World) (hn : n₀ ≤ W.heap.size) (o : Obj) : KpO n₀ T W (W.alloc o) :=
  ⟨(Below.refl _ _).alloc hn _, by simp, fun k _ _ hk => (Below.heap_alloc _ _ _ (Array.getElem?_eq_some_iff.1 hk).1).trans hk⟩
theorem KpO.refl (n₀ : Nat) (T : TypeId) (W : World) : KpO n₀ T W W := ⟨Below.refl _ _, Nat.le_refl _, fun _ _ _ h => h⟩
/-- A step that turns one block of cells of another type beyond n₀. -/
theorem KpO.grown {n₀ : Nat} {T : TypeId} {W W' : World} {row : Option Nat} (hg : W.grownBy W' row) (hn : n₀ ≤ W.heap.size) (hr : ∀ k, row = some k → n₀ ≤ k ∧ ∀ cs fz, W.heap[k]? ≠ some (.cells cs T fz)) : KpO n₀ T W W' :=
  ⟨(Below.refl _ _).grown hg hn (fun k e => (hr k e).1), hg.size, fun k cs fz hk => (hg.block k (Array.getElem?_eq_some_iff.1 hk).1 (fun e => (hr k e.symm).2 cs fz hk)).trans hk⟩
end Go.Proofs.Ytabkmdhkfbcldaa
namespace Go.Proofs.Ytabkmdhkfbcldaa
open Go.RowKit
open Go.ChangeMaps (setBlock)
section
variable {F : Fence} {n : Nat} {P : Program} {w : World} {ops : Array Oper} {rest : List Oper} {o : Oper} {a : Act} {Q : Exit → Act → World → Prop}
theorem wpListIn_range_m (hg : o.guard = none) (m : Operand) (t k e : TypeId) (ht : P.underlying t = some (.map k e)) (hop : o.op = Op.range t m) (b : Nat) (es : Array MapEntry) (clock : Nat) (hm : a.eval m = .map (some b)) (hb : w.heap[b]? = some (.map es clock))
    (hK : wpListIn F n P ops Q rest (a.put o.dst (.pointer (some ⟨w.heap.size, 0, none⟩))) (w.alloc (.mapIter (some b) clock #[] clock))) : wpListIn F n P ops Q (o :: rest) a w := by
  refine wpListIn_plain hg fun K' hK' => ?_
  have hrun := run_range_map (P := P) w t k e b es clock ht hb
  unfold Oper.wpIn
  refine ⟨by simp [Oper.about, hop], ?_⟩
  rw [Oper.semAt_plain F _ _ (by rw [hop]; intro c hc'; cases hc')]
  simp [execOp, hop, hm, hrun, Result.andThen]
  exact hK' _ _ hK
theorem wpListIn_next_m (hg : o.guard = none) (it : Operand) (hop : o.op = Op.next it false) (r b since c0 : Nat) (seen : Array Nat) (es : Array MapEntry) (clock : Nat) (hit : a.eval it = .pointer (some ⟨r, 0, none⟩))
    (hr : w.heap[r]? = some (.mapIter (some b) since seen c0)) (hb : w.heap[b]? = some (.map es clock)) (hold : ∀ x ∈ es.toList, x.born < since) (hsc : since ≤ c0)
    (hDone : (leftOf es seen).size = 0 → wpListIn F n P ops Q rest (a.put o.dst (.tuple #[.bool false])) w)
    (hMore : ∀ e ∈ (leftOf es seen).toList, ∀ w1 : World, (w1 = w ∨ w1 = w.drew) → wpListIn F n P ops Q rest (a.put o.dst (.tuple #[.bool true, e.key, e.val])) (setBlock w1 r (.mapIter (some b) since (seen.push e.born) clock))) :
    wpListIn F n P ops Q (o :: rest) a w := by
  refine wpListIn_plain hg fun K' hK' => ?_
  unfold Oper.wpIn
  refine ⟨by simp [Oper.about, hop], ?_⟩
  rw [Oper.semAt_plain F _ _ (by rw [hop]; intro c hc'; cases hc')]
  rcases run_next_at (P := P) w o.type r b since c0 seen es clock hr hb hold hsc with ⟨h0, hrun⟩ | ⟨e, he, w1, hw1, hrun⟩
  · simp [execOp, hop, hit, hrun, Result.andThen]
    exact hK' _ _ (hDone h0)
  · simp [execOp, hop, hit, hrun, Result.andThen]
    exact hK' _ _ (hMore e he w1 hw1)
end
/-- One is taken out of what is left. -/
theorem left_perm (l : List MapEntry) (hn : (l.map (·.born)).Nodup) (seen : Array Nat) (e : MapEntry) (he : e ∈ l.filter (fun x => !seen.contains x.born)) :
    (l.filter (fun x => !seen.contains x.born)).Perm (e :: l.filter (fun x => !(seen.push e.born).contains x.born)) := by
  induction l with
  | nil => simp at he
  | cons x l ih =>
    have hn' := List.nodup_cons.1 hn
    have hp : ∀ y : MapEntry, (seen.push e.born).contains y.born = (seen.contains y.born || y.born == e.born) := fun y => contains_push seen e.born y.born
    by_cases hx : seen.contains x.born = true
    · have hx2 : (seen.push e.born).contains x.born = true := by rw [hp, hx]; rfl
      simp only [List.filter_cons, hx, hx2, Bool.not_true, Bool.false_eq_true, if_false] at he ⊢
      exact ih hn'.2 he
    · have hx : seen.contains x.born = false := by simpa using hx
      by_cases hxe : x = e
      · subst hxe
        have hx2 : (seen.push x.born).contains x.born = true := by rw [hp]; simp
        simp only [List.filter_cons, hx, hx2, Bool.not_true, Bool.not_false, Bool.false_eq_true, if_false, if_true]
        have e2 : l.filter (fun y => !(seen.push x.born).contains y.born) = l.filter (fun y => !seen.contains y.born) := List.filter_congr fun y hy => by
          have hne : (y.born == x.born) = false := by
            rw [beq_eq_false_iff_ne]
            intro hb
            exact hn'.1 (List.mem_map.2 ⟨y, hy, hb⟩)
          rw [hp, hne, Bool.or_false]
        rw [e2]
      · have he2 : e ∈ l.filter (fun x => !seen.contains x.born) := by
          simp only [List.filter_cons, hx, Bool.not_false, if_true] at he
          rcases List.mem_cons.1 he with h | h
          · exact absurd h.symm hxe
          · exact h
        have hbe : (x.born == e.born) = false := by
          rw [beq_eq_false_iff_ne]
          intro hb
          have hel : e ∈ l := (List.mem_filter.1 he2).1
          exact hn'.1 (List.mem_map.2 ⟨e, hel, hb.symm⟩)
        have hx2 : (seen.push e.born).contains x.born = false := by rw [hp, hx, hbe]; rfl
        simp only [List.filter_cons, hx, hx2, Bool.not_false, if_true]
        exact ((ih hn'.2 he2).cons x).trans (List.Perm.swap e x _)
theorem left_list (es : Array MapEntry) (seen : Array Nat) : (leftOf es seen).toList = es.toList.filter (fun x => !seen.contains x.born) := by
  unfold leftOf; rw [Array.toList_filter]
end Go.Proofs.Ytabkmdhkfbcldaa
