/-
 ShardLinear: what its walk wants of the run.
 run with ShardLinear's function (printed by genrun.py).
 Lists of work as they come in.
 ShardLinear: the walk.
-/
import Derived.Test.YtabkmdhkfbcldaaGreatJL12
import Derived.Test.YtabkmdhkfbcldaaGreatJL16
import Derived.Test.YtabkmdhkfbcldaaGreatJL19
import Derived.Test.YtabkmdhkfbcldaaGreatJL0
import Derived.Test.YtabkmdhkfbcldaaGreatJL10
namespace Go.Proofs.YtabkmdhkfbcldaaGreat
open Go.RowKit
variable {w w' : World}
theorem wkOf_vals {zs : List AkR} {p : Nat} (h : FewOk zs p) {n : Int} (hn : newTE n (lists zs) = 0) : ∀ v, ∀ a ∈ (wkOf zs n).own v, a.value = 0 ∨ a.kind = 1 := fun v a ha => by
 obtain ⟨h1, h2, h3, h4, h5, h6⟩ := h.few hn
 unfold Wk.own at ha
 rw [List.getD_eq_getElem?_getD] at ha
 cases e : (wkOf zs n).work[v]? with
 | none => rw [e] at ha; cases ha
 | some l =>
  rw [e] at ha
  have := h6 l (List.mem_of_getElem? e)
  rw [List.any_eq_false] at this
  have hb := this a ha
  unfold akBad at hb
  simp at hb
  by_cases hk : a.kind = 1
  ·exact .inr hk
  ·exact .inl (hb.2 hk)
set_option maxRecDepth 20000 in
theorem each12 (w : World) (v : Int) : Calls Tryz.prog 12 #[.int .i64 v] w fun e w' => e = .returned (.bool true) ∧ w' = w := by
 go_enter Tryz.func12, Tryz.ntmps12
 go_wp2
 go_ret
 exact ⟨rfl, rfl⟩
structure JTL (w0 wz : World) (N0 base t : Nat) (K : Wk) (S : Sh) (W : World) : Prop where
 t : ∃ B, TOk W base t K S B ∧ ∀ b, B.fp K t b → b < N0 ∨ wz.heap.size ≤ b
 b : Below w0.heap.size w0 W
 g : GOk K S
 sz : wz.heap.size ≤ W.heap.size
 kp : ∀ b, N0 ≤ b → b < wz.heap.size → W.heap[b]? = wz.heap[b]?
theorem JTL.below {w0 wz W : World} {N0 base t : Nat} {K : Wk} {S : Sh} (h : JTL w0 wz N0 base t K S W) (hb : Below W.heap.size W w') : JTL w0 wz N0 base t K S w' :=
 ⟨h.t.imp fun B hT => ⟨⟨hT.1.is.below hb, hT.1.ok, hT.1.pr, hT.1.hv⟩, hT.2⟩, h.b.trans (hb.mono h.b.size), h.g, Nat.le_trans h.sz hb.size, fun b h1 h2 => (hb.block b (Nat.lt_of_lt_of_le h2 h.sz)).trans (h.kp b h1 h2)⟩
theorem fp_ltL {W : World} {base t : Nat} {K : Wk} {S : Sh} {B : TB} (h : TabIs W base t K S B) {b : Nat} (hb : B.fp K t b) : b < W.heap.size := by
 rcases hb with hb | hb
 ·exact (h.ap b hb).2.2
 ·obtain ⟨v, ys, H⟩ := h.mem
  exact H.lt b hb
theorem JTL.again {w0 wz W : World} {N0 base t : Nat} {K : Wk} {S : Sh} (h : JTL w0 wz N0 base t K S W) (hb : Below W.heap.size W w') : JTL w0 w' W.heap.size base t K S w' := by
 obtain ⟨⟨B, hT, _⟩, h2, h3, -, -⟩ := h
 exact ⟨⟨B, ⟨hT.is.below hb, hT.ok, hT.pr, hT.hv⟩, fun b hf => .inl (fp_ltL hT.is hf)⟩, h2.trans (hb.mono h2.size), h3, Nat.le_refl _, fun b _ _ => rfl⟩
structure KOk (K : Wk) : Prop where
 ok : WkOk K
 kinds : ∀ v, ∀ a ∈ K.own v, 1 ≤ a.kind ∧ a.kind ≤ 3
 vals : ∀ v, ∀ a ∈ K.own v, a.value = 0 ∨ a.kind = 1
 own : ∀ k, (K.own k).length ≤ 60
theorem KOk.reach {K : Wk} {S S' : Sh} (HK : KOk K) (h : Reach K S S') (hg : GOk K S) : GOk K S' := h.g_ok (TabIs.shLt HK.ok) HK.ok.wn.2 HK.kinds HK.vals hg
theorem KOk.stepI {K : Wk} {S : Sh} (HK : KOk K) (ho : ShOk K S) (hg : GOk K S) (v : Int) : GOk K (S.stepI K v) := HK.reach (Reach.stepI ho v) hg
theorem stepJL {w0 wz W : World} {N0 base t M : Nat} {K : Wk} {S : Sh} (HK : KOk K) (hb : w0.heap.size ≤ base) (hM : M ≤ 399) (h : JTL w0 wz N0 base t K S W) (hr : RunOk K M S) (v : Int) :
  Calls Tryz.prog 7 #[.pointer (some ⟨t, 0, none⟩), .int .i64 v] W fun e W' => e = .returned (.tuple #[]) ∧ JTL w0 wz N0 base t K (S.stepI K v) W' := by
 obtain ⟨⟨B, hT, hf⟩, hbe, hg, hz, hk⟩ := h
 refine (step_any hT HK.ok v (by have := hr.m; omega) (fun k => by have := HK.own k; omega)).mono ?_
 rintro e W' ⟨rfl, B', hT', hf', hbt, hl⟩
 refine ⟨rfl, ⟨B', hT', fun b hb2 => ?_⟩, hbe.trans (hl.mono hb), HK.stepI hr.ok hg v, Nat.le_trans hz hl.size, fun b h1 h2 => (hbt.keep b (Nat.lt_of_lt_of_le h2 hz) (fun hx => ?_)).trans (hk b h1 h2)⟩
 ·rcases hf' b hb2 with h3 | h3
  ·exact hf b h3
  ·exact .inr (Nat.le_trans hz h3)
 ·rcases hf b hx with h3 | h3 <;> omega
theorem runJL {w0 wz : World} {N0 base t M : Nat} {K : Wk} (HK : KOk K) (hb : w0.heap.size ≤ base) (hM : M ≤ 399) : RunJ w0 K M base t (JTL w0 wz N0 base t K) (fun S v W => JTL w0 wz N0 base t K (S.stepI K v) W) 12 (fun v => #[.int .i64 v]) :=
 ⟨fun S W h => h.t.imp fun B hT => hT.1, fun S W h => h.b, fun S W W' h hb => h.below hb,
  fun S W v h hr => stepJL HK hb hM h hr v,
  fun S W v _ _ h _ => (each12 W v).mono fun e W' ⟨h1, h2⟩ => ⟨h1, h2 ▸ h⟩⟩
theorem JTL.row {w0 wz W : World} {N0 base t : Nat} {K : Wk} {S : Sh} (h : JTL w0 wz N0 base t K S W) {b2 n c size : Nat} {e : TypeId} {p : Option Addr} {xs : List Value} (ho : wz.ownsRow b2 e size (.slice p n c) n xs) (hb : N0 ≤ b2) : Row W p xs := by
 have h2 := own_blk (w' := W) ho (fun b hb2 => h.kp b (Nat.le_trans hb (own_ge ho b hb2)) (own_lt ho b hb2))
 obtain ⟨p2, c2, e2, hr2⟩ := own_shape h2
 cases e2
 exact hr2
theorem own_shape3 {w : World} {base : Nat} {e : TypeId} {size : Nat} {v : Value} {n : Nat} {xs : List Value} (h : w.ownsRow base e size v n xs) : ∃ p c, v = .slice p n c ∧ Row w p xs ∧ n ≤ c ∧ (p = none → c = 0) := by
 obtain ⟨p, c, e1, hc, _, hr, _⟩ := own_row h
 refine ⟨p, c, e1, hr, hc, ?_⟩
 rintro rfl
 rcases h.2 with ⟨e2, _⟩ | ⟨g, cap, cur, e2, _⟩
 ·rw [e1] at e2; cases e2; rfl
 ·rw [e1] at e2; cases e2
structure HistF (l : List Cl) : Prop where
 len : l.length ≤ 360
 z : chkL l = 0
 lin : Lin l
 m : ∀ i, i < l.length → (cAt l i).to ≤ maxI
theorem GOk.histF {K : Wk} {S : Sh} (hg : GOk K S) (ho : ShOk K S) {M : Nat} (hr : RunOk K M S) (hM : M ≤ 360) : HistF S.calls := by
 have hl : S.calls.length ≤ 360 := by have h1 := hr.m; have h2 := ho.cnt; omega
 obtain ⟨h1, h2⟩ := hg.legal
 refine ⟨hl, chk_is (by omega) h1, h2, fun i hi => ?_⟩
 have := hg.2.1.tos i hi
 have h3 := hr.m
 unfold maxI
 omega
structure FindY (l : List Cl) (w : World) (e : Ending) (w' : World) : Prop where
 a : ∃ (p : Option Addr) (c : Nat) (o : List Nat), e = .returned (.tuple #[.slice p o.length c, .bool true, .int .i64 0]) ∧ Row w' p (o.map natVLn) ∧ Legal l o
 b : Below w.heap.size w w'
theorem findY (l : List Cl) (h : HistF l) (p : Option Addr) (c : Nat) (w : World) (hc : l.length ≤ c) (hp : p = none → c = 0) (hrow : Row w p (l.flatMap Cl.cells)) :
  Calls Tryz.prog 13 #[.slice p l.length c] w (FindY l w) := by
 refine (find_any l p c w (Nat.le_trans h.len (by omega)) hc hp hrow h.m).mono ?_
 rintro e w' ⟨v, o, is, rfl, hf, ho, hb⟩
 have hi := (hf.lin h.z).2 h.lin
 subst hi
 rw [h.z]
 obtain ⟨p2, c2, e2, hr2⟩ := own_shape ho
 subst e2
 exact ⟨⟨p2, c2, o, rfl, hr2, hf.leg rfl⟩, hb⟩
theorem legalY (l : List Cl) (h : HistF l) (p : Option Addr) (c : Nat) (o : List Nat) (q : Option Addr) (d : Nat) (w : World) (hc : l.length ≤ c) (hrow : Row w p (l.flatMap Cl.cells)) (ho : Row w q (o.map natVLn)) (hl : Legal l o) :
  Calls Tryz.prog 14 #[.slice p l.length c, .slice q o.length d] w fun e w' => e = .returned (.bool true) ∧ Below w.heap.size w w' :=
 rlegal_any l p c o q d w (Nat.le_trans h.len (by omega)) hc hrow ho h.z hl
end Go.Proofs.YtabkmdhkfbcldaaGreat
namespace Go.Proofs.YtabkmdhkfbcldaaGreat
open Go.RowKit
variable {w w' : World} {K : Wk}
set_option maxRecDepth 40000 in
set_option maxHeartbeats 4000000 in
theorem runL_any {w0 : World} {M base t : Nat} {J : Sh → World → Prop} {J1 : Sh → Int → World → Prop} (HJ : RunJ w0 K M base t J J1 12 (fun v => #[.int .i64 v])) (HK : WkOk K) (hM : M ≤ 399) {S : Sh} (hj : J S w) (hok : RunOk K M S)
  (p : Option Addr) (c : Nat) (picks : List Nat) (hl : picks.length ≤ 1000000) (hu : ∀ n ∈ picks, n ≤ 255) (hr : Row w0 p (picks.map (fun n : Nat => .int .u8 n))) :
  Calls Tryz.prog 11 #[.pointer (some ⟨t, 0, none⟩), .slice p picks.length c, .func (.func 12) #[] #[]] w (RunPost K M J S) := by
 have HI0 : Hid (RunI K M J S S w) := ⟨hj, hok, Reach.refl S⟩
 have HJJ := hid HJ
 have HU := hid hu
 have HO := hid (TabIs.shLt HK)
 have HWK := hid (fun S W (h : J S W) => (HJ.tok S W h).elim fun B hT => workers_any hT.is)
 have HDN := hid (fun S W (h : J S W) (v : Int) => (HJ.tok S W h).elim fun B hT => done_any hT.is v)
 have HWT := hid (fun S W (h : J S W) (v : Int) => (HJ.tok S W h).elim fun B hT => twaits_any hT.is HK v)
 have HST := hid HJ.step
 have HEA : Hid (∀ S W (v : Int), 0 ≤ v → v ≤ K.work.length → J1 S v W → RunOk K M S → Calls Tryz.prog 12 #[.int .i64 v] W fun e W' => e = .returned (.bool true) ∧ J (S.stepI K v) W') := HJ.each
 have hn := HK.wn
 obtain ⟨n, hnn⟩ : ∃ n : Nat, n = K.work.length := ⟨_, rfl⟩
 have HN := hid hnn
 rw [← hnn] at hn HWK HEA
 clear hnn HJ hj hok hu HK
 go_enter Tryz.func11, Tryz.ntmps11
 go_wp2_with fail
 go_loopw [14] (fun i wr => ∃ (k : Nat) (S' : Sh), k ≤ picks.length ∧ i = .int .i64 k ∧ RunI K M J S S' wr) (fun i _ => picks.length - (intOf i).toNat)
 case atStart => exact ⟨0, S, by omega, rfl, HI0.out⟩
 case round =>
  rename World => wx
  obtain ⟨k, S1, hk, rfl, hri⟩ := hrel
  have HRI := hid hri
  clear hri HI0
  by_cases hlt : k < picks.length
  ·obtain ⟨b, o, rfl, _, hcell⟩ := (hr.below (HJJ.out.bel _ _ HRI.out.j)).at (by simp; omega)
   have hck := hcell k (by simpa using hlt)
   simp only [List.getElem_map] at hck
   have hx := HU.out _ (List.getElem_mem hlt)
   have hkI : (k : Int) < picks.length := by omega
   clear hcell
   generalize picks[k] = x at *
   obtain ⟨v, hv⟩ : ∃ v : Int, (x : Int).tmod ((n : Int) + 1) = v := ⟨_, rfl⟩
   have hn1 : ¬ ((n : Int) + 1) = 0 := by omega
   have hv0 : 0 ≤ v := by rw [← hv]; exact Int.tmod_nonneg _ (by omega)
   have hv1 : v < (n : Int) + 1 := by rw [← hv]; exact Int.tmod_lt_of_pos _ (by omega)
   have hv2 : v ≤ n := by omega
   have HV2 := hid (And.intro hv0 hv2)
   have hwv : IntKind.i64.wrap v = v := IntWalk.i64_in _ (by omega)
   have hwx : IntKind.i64.wrap (x : Int) = x := IntWalk.i64_in _ (by omega)
   have HVI := hid (HRI.out.next HO.out v (W' := wx))
   go_wp2_with (first
    | (go_at_call 8; (with_reducible refine (HWK.out _ _ HRI.out.j).mono ?_); rintro e w2 ⟨rfl, hw2⟩; subst hw2)
    | (go_at_call 7; (with_reducible refine (HST.out _ _ _ HRI.out.j HRI.out.ok).mono ?_); rintro e w3 ⟨rfl, hj3⟩; have HJ3 := hid hj3; clear hj3)
    | (go_at_call 12; (with_reducible refine (HEA.out _ _ _ HV2.out.1 HV2.out.2 HJ3.out HRI.out.ok).mono ?_); rintro e w4 ⟨rfl, hj4⟩; have HJ4 := hid hj4; clear hj4))
   exact ⟨⟨k + 1, _, by omega, by go_num, HRI.out.next HO.out v HJ4.out⟩, by simp [intOf]; omega⟩
  ·have hke : k = picks.length := by omega
   subst hke
   go_wp2_with fail
   go_loopw [32] (fun i wr => ∃ (r : Nat) (S' : Sh), r ≤ 400 ∧ i = .int .i64 r ∧ RunI K M J S S' wr ∧ r ≤ S'.steps) (fun i _ => 400 - (intOf i).toNat)
   case atStart => exact ⟨0, S1, by omega, rfl, HRI.out, by omega⟩
   case round =>
    rename World => wy
    obtain ⟨r, S2, hr4, rfl, hri2, hrs⟩ := hrel
    have HR2 := hid hri2
    have HRS := hid hrs
    have hr3 : r ≤ 399 := by have := hri2.ok.m; omega
    clear hri2 hrs HRI
    have hrI : (r : Int) < 400 := by omega
    go_wp2_with (go_at_call 8; (with_reducible refine (HWK.out _ _ HR2.out.j).mono ?_); rintro e w2 ⟨rfl, hw2⟩; subst hw2)
    go_loopw [10, 36] (fun mv i wr => ∃ (j : Nat) (S' : Sh) (b : Bool), j ≤ n ∧ i = .int .i64 j ∧ mv = .bool b ∧ RunI K M J S S' wr ∧ (b = false → S' = S2 ∧ ∀ v, v < j → S2.canN K v = false) ∧ (b = true → r + 1 ≤ S'.steps)) (fun _ i _ => n - (intOf i).toNat)
    case atStart => exact ⟨0, S2, false, by omega, rfl, rfl, HR2.out, fun _ => ⟨rfl, fun v hv => (by omega)⟩, fun h => (by cases h)⟩
    case round =>
     rename World => wz
     obtain ⟨j, S3, b, hj, rfl, rfl, hri3, hb0, hb1⟩ := hrel
     have HR3 := hid hri3
     have HB := hid (And.intro hb0 hb1)
     clear hri3 hb0 hb1
     by_cases hjn : j < n
     ·have hjI : (j : Int) < n := by omega
      have hjw : j < K.work.length := by rw [← HN.out]; exact hjn
      have hdw := doneI_nat S3 j hjw
      have HD3 := hid (HDN.out _ _ HR3.out.j (j : Int))
      have HW3 := hid (fun q => HWT.out _ _ (HJJ.out.below _ _ _ HR3.out.j (below_drewN (Below.refl _ _) q)) (j : Int))
      rw [hdw] at HD3
      cases hd : S3.doneN K j with
      | true =>
       rw [hd] at HD3
       have hc : S3.canN K j = false := by unfold Sh.canN; rw [hd]; rfl
       have HC := hid hc
       clear hdw hd hc
       go_wp2_with (go_at_call 17; (with_reducible refine HD3.out.mono ?_); rintro e w3 ⟨rfl, qd, rfl⟩)
       refine ⟨⟨j + 1, S3, b, by omega, by go_num, rfl, HR3.out.below HJJ.out (below_drewN (Below.refl _ _) _), fun h => ⟨(HB.out.1 h).1, fun v hv => ?_⟩, HB.out.2⟩, by simp [intOf]; omega⟩
       by_cases e : v = j
       ·subst e; rw [← (HB.out.1 h).1]; exact HC.out
       ·exact (HB.out.1 h).2 v (by omega)
      | false =>
       rw [hd] at HD3
       have hww := waitsI_nat S3 j hjw hd
       rw [hww] at HW3
       cases hw : S3.waitsN K j with
       | true =>
        rw [hw] at HW3
        have hc : S3.canN K j = false := by unfold Sh.canN; rw [hw]; simp
        have HC := hid hc
        clear hdw hd hc hw hww
        go_wp2_with (first
         | (go_at_call 17; (with_reducible refine HD3.out.mono ?_); rintro e w3 ⟨rfl, qd, rfl⟩)
         | (go_at_call 23; (with_reducible refine (HW3.out _).mono ?_); rintro e w4 ⟨rfl, hb4⟩; have hb4' : Below wz.heap.size wz w4 := (below_drewN (Below.refl _ wz) qd).trans (hb4.mono (Nat.le_refl _)); have HJB := hid (HJJ.out.below _ _ _ HR3.out.j hb4'); have HB4 := hid hb4'; clear hb4 hb4'))
        refine ⟨⟨j + 1, S3, b, by omega, by go_num, rfl, HR3.out.below HJJ.out HB4.out, fun h => ⟨(HB.out.1 h).1, fun v hv => ?_⟩, HB.out.2⟩, by simp [intOf]; omega⟩
        by_cases e : v = j
        ·subst e; rw [← (HB.out.1 h).1]; exact HC.out
        ·exact (HB.out.1 h).2 v (by omega)
       | false =>
        rw [hw] at HW3
        have hc : S3.canN K j = true := by unfold Sh.canN; rw [hd, hw]; rfl
        have HST3 : Hid ((S3.stepI K (j : Int)).steps = S3.steps + 1) := by unfold Hid; rw [stepI_nat]; exact (left_step HR3.out.ok.ok hjw hc).2
        have HBS : Hid (r ≤ S3.steps) := by
         unfold Hid
         cases hbb : b with
         | false => rw [(HB.out.1 hbb).1]; exact HRS.out
         | true => have := HB.out.2 hbb; omega
        have hjw2 : (0 : Int) ≤ j ∧ (j : Int) ≤ n := by omega
        have HJW := hid hjw2
        clear hdw hd hc hw hww hjw hjw2
        go_wp2_with (first
         | (go_at_call 17; (with_reducible refine HD3.out.mono ?_); rintro e w3 ⟨rfl, qd, rfl⟩)
         | (go_at_call 23; (with_reducible refine (HW3.out _).mono ?_); rintro e w4 ⟨rfl, hb4⟩; have hb4' : Below wz.heap.size wz w4 := (below_drewN (Below.refl _ wz) qd).trans (hb4.mono (Nat.le_refl _)); have HJB := hid (HJJ.out.below _ _ _ HR3.out.j hb4'); have HB4 := hid hb4'; clear hb4 hb4')
         | (go_at_call 7; (with_reducible refine (HST.out _ _ _ HJB.out HR3.out.ok).mono ?_); rintro e w5 ⟨rfl, hj5⟩; have HJ5 := hid hj5; clear hj5)
         | (go_at_call 12; (with_reducible refine (HEA.out _ _ _ HJW.out.1 HJW.out.2 HJ5.out HR3.out.ok).mono ?_); rintro e w6 ⟨rfl, hj6⟩; have HJ6 := hid hj6; clear hj6))
        exact ⟨⟨j + 1, _, true, by omega, by go_num, rfl, HR3.out.next HO.out (j : Int) HJ6.out, fun h => (by cases h), fun _ => (by rw [HST3.out]; have := HBS.out; omega)⟩, by simp [intOf]; omega⟩
     ·have hje : j = n := by omega
      subst hje
      cases b with
      | false =>
       go_wp2_with fail
       go_ret
       refine ⟨by first | rfl | trivial, S3, HR3.out, fun v hv => ?_⟩
       have hb := HB.out.1 (by first | rfl | trivial)
       rw [hb.1]
       exact hb.2 v (by rw [HN.out]; exact hv)
      | true =>
       go_wp2_with fail
       exact ⟨⟨r + 1, S3, by omega, by go_num, HR3.out, HB.out.2 (by first | rfl | trivial)⟩, by simp [intOf]; omega⟩
end Go.Proofs.YtabkmdhkfbcldaaGreat
namespace Go.Proofs.YtabkmdhkfbcldaaGreat
open Go.RowKit Go.ChangeShapes Go.WideShapes Go.ChangeAt
structure Ak.ok (a : Ak) : Prop where
 key : a.key.size ≤ 140737488351232
 kind : inI64 a.kind
 value : inI64 a.value
theorem wf_u8 {n : Int} (h : (Lit.int .u8 n).wf = true) : 0 ≤ n ∧ n < 256 := by
 simp [Lit.wf, IntKind.min, IntKind.max, IntKind.bits, IntKind.signed] at h
 omega
section
variable {H : Type} {enc : TypeId × Value → H} {W : World}
theorem fieldk {ty : TypeId} {off m : Nat} {cs l : List Value} (hc : Tryz.prog.cellsOf ty = m) (e : List.take (Tryz.prog.cellsOf ty) (List.drop off cs) = l) : (cs.drop off).take m = l := by rw [← hc]; exact e
theorem opens_str {P : Program} {t : TypeId} (ht : P.underlying t = some .string) : OpensAs enc P W t (fun s : ByteArray => [Value.string s]) (fun s => s.size ≤ 140737488351232) := fun n cs y h hlt => by
 obtain ⟨s, e, hy, _⟩ := DataW.trod_string ht h
 refine ⟨s, e, ?_⟩
 have := hlt s.data.toList.length (by rw [hy]; simp [DataW.weights])
 exact this
set_option maxRecDepth 20000 in
theorem opens_ask : OpensAs enc Tryz.prog W 46 Ak.cells Ak.ok := fun n cs y h hlt => by
 obtain ⟨xs, k, rfl, rfl, hlen, hxl, hf⟩ := DataW.trod_struct Tryz.underlying46 h
 have hlen : cs.length = 3 := hlen.trans (by kernel_rfl)
 have hxl : xs.length = 3 := hxl
 have c0 : Tryz.prog.cellsOf 3 = 1 := by kernel_rfl
 have c1 : Tryz.prog.cellsOf 9 = 1 := by kernel_rfl
 have c2 : Tryz.prog.cellsOf 2 = 1 := by kernel_rfl
 obtain ⟨n0, e0, w0⟩ := (opens_int Tryz.underlying3) _ _ _ ((hf 0 _ rfl).trans (List.getElem?_eq_getElem (by omega))) (light_field Tryz.underlying46 hlt (j := 0) rfl (List.getElem?_eq_getElem (by omega)))
 obtain ⟨n1, e1, w1⟩ := (opens_str Tryz.underlying9) _ _ _ ((hf 1 _ rfl).trans (List.getElem?_eq_getElem (by omega))) (light_field Tryz.underlying46 hlt (j := 1) rfl (List.getElem?_eq_getElem (by omega)))
 obtain ⟨n2, e2, w2⟩ := (opens_int Tryz.underlying2) _ _ _ ((hf 2 _ rfl).trans (List.getElem?_eq_getElem (by omega))) (light_field Tryz.underlying46 hlt (j := 2) rfl (List.getElem?_eq_getElem (by omega)))
 have e0 := fieldk (off := 0) c0 e0
 have e1 := fieldk (off := 1) c1 e1
 have e2 := fieldk (off := 2) c2 e2
 match cs, hlen with
 | [v0, v1, v2], _ =>
  simp at e0 e1 e2
  subst e0 e1 e2
  exact ⟨⟨n0, n1, n2⟩, rfl, w1, wf_i64 w0, wf_i64 w2⟩
def AsksOk (W : World) (z : AkR) : Prop := z.2.2.length ≤ z.2.1 ∧ z.2.1 ≤ maxLen ∧ (z.1 = none → z.2.1 = 0) ∧ Row W z.1 (z.2.2.flatMap Ak.cells) ∧ (∀ x ∈ z.2.2, x.ok) ∧ z.2.1 * Tryz.prog.bytesOf 46 ≤ 140737488351232
theorem opens_asks : OpensAs enc Tryz.prog W 47 (fun z : AkR => [Value.slice z.1 z.2.2.length z.2.1]) (AsksOk W) :=
 opens_slice (k := 3) Tryz.underlying47 (by kernel_rfl) (by decide) (fun _ => rfl) opens_ask
abbrev WkR := Option Addr × Nat × List AkR
theorem opens_work : OpensAs enc Tryz.prog W 22 (fun z : WkR => [Value.slice z.1 z.2.2.length z.2.1]) (fun z => z.2.2.length ≤ z.2.1 ∧ z.2.1 ≤ maxLen ∧ (z.1 = none → z.2.1 = 0) ∧ Row W z.1 (z.2.2.flatMap fun z : AkR => [Value.slice z.1 z.2.2.length z.2.1]) ∧ (∀ x ∈ z.2.2, AsksOk W x) ∧ z.2.1 * Tryz.prog.bytesOf 47 ≤ 140737488351232) :=
 opens_slice (k := 1) Tryz.underlying22 (by kernel_rfl) (by decide) (fun _ => rfl) opens_asks
end
theorem asks_of {W : World} {p : Option Addr} {c : Nat} {zs : List AkR} (h : zs.length ≤ c ∧ c ≤ maxLen ∧ (p = none → c = 0) ∧ Row W p (zs.flatMap fun z : AkR => [Value.slice z.1 z.2.2.length z.2.1]) ∧ (∀ x ∈ zs, AsksOk W x) ∧ c * Tryz.prog.bytesOf 47 ≤ 140737488351232) :
  AskIs W p c zs ∧ ∀ z ∈ zs, z.2.2.length ≤ 4398046511104 ∧ ∀ a ∈ z.2.2, a.key.size ≤ 140737488351232 := by
 obtain ⟨h1, h2, h3, h4, h5, h6⟩ := h
 have e : (zs.flatMap fun z : AkR => [Value.slice z.1 z.2.2.length z.2.1]) = zs.map akS := by
  clear h1 h4 h5
  induction zs with
  | nil => rfl
  | cons z r ih => rw [List.flatMap_cons, ih]; rfl
 rw [e] at h4
 refine ⟨⟨h4, ⟨h1, h2⟩, fun z hz => ?_⟩, fun z hz => ?_⟩
 ·obtain ⟨q1, q2, q3, q4, _⟩ := h5 z hz
  exact ⟨q3, q4, q1, q2⟩
 ·obtain ⟨q1, q2, q3, q4, q5, q6⟩ := h5 z hz
  have hb : Tryz.prog.bytesOf 46 = 32 := by kernel_rfl
  rw [hb] at q6
  exact ⟨by omega, fun a ha => (q5 a ha).key⟩
end Go.Proofs.YtabkmdhkfbcldaaGreat
namespace Go.Proofs.YtabkmdhkfbcldaaGreat
open Go.RowKit
variable {w w' : World}
def HalfIs (W : World) (b : Nat) : Prop := ∀ j, j < 2 → ∃ (p : Option Addr) (c : Nat) (l : List Cl), HistF l ∧ l.length ≤ c ∧ (p = none → c = 0) ∧ Row W p (l.flatMap Cl.cells) ∧ W.cell? ⟨b, j, none⟩ = some (.slice p l.length c) ∧ b < W.heap.size
set_option maxRecDepth 40000 in
set_option maxHeartbeats 4000000 in
theorem linear_walk (w : World) (n : Int) (hn : (Lit.int .i64 n).wf = true) (wp : Option Addr) (wc : Nat) (zs : List AkR)
  (hwk : zs.length ≤ wc ∧ wc ≤ maxLen ∧ (wp = none → wc = 0) ∧ Row w wp (zs.flatMap fun z : AkR => [Value.slice z.1 z.2.2.length z.2.1]) ∧ (∀ x ∈ zs, AsksOk w x) ∧ wc * Tryz.prog.bytesOf 47 ≤ 140737488351232)
  (kp : Option Addr) (kc : Nat) (ps : List Int)
  (hps : ps.length ≤ kc ∧ kc ≤ maxLen ∧ (kp = none → kc = 0) ∧ Row w kp (ps.map (Value.int .u8)) ∧ (∀ n ∈ ps, (Lit.int .u8 n).wf = true) ∧ kc * 1 ≤ 140737488351232)
  (mo : Int) (hmo : (Lit.int .u8 mo).wf = true) :
  Calls Tryz.prog 3 #[.int .i64 n, .slice wp zs.length wc, .slice kp ps.length kc, .int .u8 mo] w fun e w' => e = .returned (.bool true) ∧ Below w.heap.size w w' := by
 obtain ⟨q, rfl⟩ : ∃ q : Nat, mo = q := ⟨mo.toNat, by have := wf_u8 hmo; omega⟩
 have hq256 : q ≤ 255 := by have := wf_u8 hmo; omega
 clear hmo
 obtain ⟨hA, hq⟩ := asks_of hwk
 obtain ⟨hp1, hp2, hp3, hp4, hp5, -⟩ := hps
 have HA := hid hA
 have HBG := hid begun_any
 have HFW := hid (fun (w1 : World) (hb : Below w.heap.size w w1) => few_any wp wc zs (hA.below hb) hq kp kc ps.length hp1 hp2)
 have HNW := hid (fun (w1 : World) (hb : Below w.heap.size w w1) => newT_any wp wc zs w1 (hA.below hb) n (wkOf zs n) (fun h => wkOf_new h))
 obtain ⟨pn, hpn⟩ : ∃ pn : List Nat, pn = ps.map Int.toNat := ⟨_, rfl⟩
 have HPL : Hid (pn.length = ps.length) := by unfold Hid; rw [hpn, List.length_map]
 have HPU : Hid (∀ x ∈ pn, x ≤ 255) := fun x hx => by
  rw [hpn] at hx
  obtain ⟨y, hy, rfl⟩ := List.mem_map.1 hx
  have := wf_u8 (hp5 y hy)
  omega
 have HPR : Hid (Row w kp (pn.map (fun n : Nat => .int .u8 n))) := by
  have e : pn.map (fun n : Nat => Value.int .u8 n) = ps.map (Value.int .u8) := by
   rw [hpn, List.map_map]
   refine List.map_congr_left fun y hy => ?_
   have := wf_u8 (hp5 y hy)
   show Value.int .u8 (y.toNat : Nat) = .int .u8 y
   congr 1; omega
  unfold Hid; rw [e]; exact hp4
 rw [← HPL.out] at hp1
 have HFW2 : Hid (∀ (w1 : World), Below w.heap.size w w1 → Calls Tryz.prog 5 #[.slice wp zs.length wc, .slice kp pn.length kc] w1 (FewTell zs pn.length w1)) := fun w1 hb => by rw [HPL.out]; exact HFW.out w1 hb
 rw [← HPL.out]
 clear HFW hpn hp4 hp5 hA hq hwk HPL
 by_cases h0 : newTE n (lists zs) = 0
 ·have H0 := hid h0
  rw [h0] at HNW
  clear h0
  obtain ⟨m, hm, hmI, hm1, hm2⟩ := min_cast pn.length q
  have HM := hid hm
  have hm0 : (0 : Int) ≤ m := by omega
  have hmc : (m : Int) ≤ kc := by omega
  have hmc2 : m ≤ kc := by omega
  unfold maxLen at hp2
  have hwq : IntKind.i64.wrap (q : Int) = q := IntWalk.i64_in _ (by omega)
  clear hm
  go_enter Tryz.func3, Tryz.ntmps3
  go_upto_region 3 with (first
   | (go_at_call 4; (with_reducible refine (HBG.out _).mono ?_); rintro e w1 ⟨rfl, hb1⟩; have HB1 := hid hb1; clear hb1)
   | (go_at_call 5; (with_reducible refine (HFW2.out _ HB1.out).mono ?_); rintro e w2 ⟨bf, rfl, hfo, hb2⟩; have HFO := hid hfo; have HB2 := hid (HB1.out.trans (hb2.mono HB1.out.size)); clear hfo hb2))
  ·go_ret
   exact ⟨rfl, HB2.out.trans (HB1.out.mono HB2.out.size)⟩
  rename (!bf) = false => hbf
  have HFE : Hid (FewOk zs pn.length) := HFO.out (by simpa using hbf)
  have HKO : Hid (KOk (wkOf zs n)) := ⟨wkOf_ok HFE.out H0.out, wkOf_kinds HFE.out H0.out, wkOf_vals HFE.out H0.out, wkOf_own HFE.out H0.out⟩
  have HKR := hid (wkOf_run HFE.out H0.out)
  have HPM : Hid (pn.length ≤ 1000000) := Nat.le_trans HFE.out.p (by omega)
  clear hbf HFO HFE
  generalize wkOf zs n = K at *
  go_upto_region 6 with (first
   | (go_at_call 6; (with_reducible refine (HNW.out _ HB2.out).mono ?_); rintro e w3 hnt; obtain ⟨t, B, rfl, hT, -, hb3⟩ := hnt.ok; have HJ3 : Hid (JTL w w w.heap.size w2.heap.size t K (Sh.start K) w3) := ⟨⟨B, hT, fun b _ => (by omega)⟩, HB2.out.trans (hb3.mono HB2.out.size), start_g K, (HB2.out.trans (hb3.mono HB2.out.size)).size, fun b h1 h2 => absurd h2 (by omega)⟩; obtain ⟨bs, hbs⟩ : ∃ bs, bs = w2.heap.size := ⟨_, rfl⟩; have HSZ : Hid (w.heap.size ≤ bs) := (by rw [hbs]; exact HB2.out.size); rw [← hbs] at HJ3; clear hnt hT hb3 hbs))
  have HJ := hid (runJL (wz := w) (N0 := w.heap.size) (M := 360) (t := t) HKO.out HSZ.out (by omega))
  have HI0 : Hid (RunI K 360 (JTL w w w.heap.size bs t K) (Sh.start K) (Sh.start K) w3) := ⟨HJ3.out, HKR.out, Reach.refl _⟩
  go_cut [44, 45, 46] from 38 to 46 (fun s nn i wx => s = .slice kp m kc ∧ nn = .int .i64 m ∧ i = .int .i64 0 ∧ wx = w3)
  case first =>
   go_wp2_with fail
   all_goals
    have hme := HM.out
    go_meet
    refine ⟨?_, ?_, ?_, ?_⟩ <;> first | rfl | (congr 1; omega)
  case rest =>
   obtain ⟨rfl, rfl, rfl, hwc⟩ := hcut
   rw [hwc]
   clear hwc
   go_wp2_with fail
   have HWK := hid (fun S W (h : JTL w w w.heap.size bs t K S W) => h.t.elim fun B hT => workers_any hT.1.is)
   have hwn := HKO.out.ok.wn
   obtain ⟨u, hu⟩ : ∃ u : Nat, u = K.work.length := ⟨_, rfl⟩
   rw [← hu] at HWK hwn
   clear hu
   go_loopw [46] (fun i wr => ∃ (k : Nat) (S' : Sh), k ≤ m ∧ i = .int .i64 k ∧ RunI K 360 (JTL w w w.heap.size bs t K) (Sh.start K) S' wr) (fun i _ => m - (intOf i).toNat)
   case atStart => exact ⟨0, Sh.start K, by omega, rfl, HI0.out⟩
   case round =>
    rename World => wx
    obtain ⟨k, S1, hk, rfl, hri⟩ := hrel
    have HRI := hid hri
    clear hri HI0
    by_cases hlt : k < m
    ·obtain ⟨b, o, rfl, _, hcell⟩ := (HPR.out.below HRI.out.j.b).at (by simp; omega)
     have hkp : k < pn.length := by omega
     have hck := hcell k (by simpa using hkp)
     simp only [List.getElem_map] at hck
     have hx := HPU.out _ (List.getElem_mem hkp)
     have hkI : (k : Int) < m := by omega
     clear hcell
     generalize pn[k] = x at *
     obtain ⟨v, hv⟩ : ∃ v : Int, (x : Int).tmod (u : Int) = v := ⟨_, rfl⟩
     have hn1 : ¬ (u : Int) = 0 := by omega
     have hwx : IntKind.i64.wrap (x : Int) = x := IntWalk.i64_in _ (by omega)
     have hv0 : 0 ≤ v := by rw [← hv]; exact Int.tmod_nonneg _ (by omega)
     have hv1 : v < (u : Int) := by rw [← hv]; exact Int.tmod_lt_of_pos _ (by omega)
     have hwv : IntKind.i64.wrap v = v := IntWalk.i64_in _ (by omega)
     go_wp2_with (first
      | (go_at_call 8; (with_reducible refine (HWK.out _ _ HRI.out.j).mono ?_); rintro e w2x ⟨rfl, hw2⟩; subst hw2)
      | (go_at_call 7; (with_reducible refine (HJ.out.step _ _ _ HRI.out.j HRI.out.ok).mono ?_); rintro e w3x ⟨rfl, hj3⟩; have HJX := hid hj3; clear hj3))
     exact ⟨⟨k + 1, _, by omega, by go_num, HRI.out.next (TabIs.shLt HKO.out.ok) v HJX.out⟩, by simp [intOf]; omega⟩
    ·have hke : k = m := by omega
     subst hke
     have HH1 : Hid (HistF S1.calls) := HRI.out.j.g.histF HRI.out.ok.ok HRI.out.ok (by omega)
     have hlen1 := HH1.out.len
     obtain ⟨B1, hT1, -⟩ := HRI.out.j.t
     have HHI := hid (history_any hT1.is (by omega))
     unfold CloneC at HHI
     clear hT1
     go_upto_region 12 with (first
      | (go_at_call 10; (with_reducible refine HHI.out.mono ?_); rintro e w6 ⟨v6, rfl, ho6, hb6⟩; obtain ⟨p6, c6, rfl, hr6, hc6, hp6⟩ := own_shape3 ho6; have HB6 := hid hb6; have HCL := hid (cloneC_any p6 c6 S1.calls w6 (by omega) hp6 hr6); clear ho6 hb6 hr6 hc6 hp6)
      | (go_at_call 9; (with_reducible refine HCL.out.mono ?_); rintro e w7 ⟨v7, rfl, ho7, hb7⟩; obtain ⟨p7, c7, rfl, hr7, hc7, hp7⟩ := own_shape3 ho7; have HO7 := hid ho7; have HZ67 : Hid (wx.heap.size ≤ w6.heap.size) := HB6.out.size; have HC7 := hid (And.intro hc7 hp7); have HB7 := hid (HB6.out.trans (hb7.mono HB6.out.size)); clear ho7 hb7 hr7 hc7 hp7))
     have HJ7 : Hid (RunI K 360 (JTL w w7 wx.heap.size bs t K) S1 S1 w7) := ⟨HRI.out.j.again HB7.out, HRI.out.ok, Reach.refl _⟩
     have HJ2 := hid (runJL (wz := w7) (N0 := wx.heap.size) (M := 360) (t := t) HKO.out HSZ.out (by omega))
     have HRN := hid (runL_any HJ2.out HKO.out.ok (by omega) HJ7.out.j HJ7.out.ok kp kc pn HPM.out HPU.out HPR.out)
     unfold RunPost at HRN
     go_upto_region 14 with (go_at_call 11; (with_reducible refine HRN.out.mono ?_); rintro e w8 ⟨rfl, S2, hri2, -⟩; have HR2 := hid hri2; clear hri2)
     obtain ⟨B2, hT2, -⟩ := HR2.out.j.t
     have HH2 : Hid (HistF S2.calls) := HR2.out.j.g.histF HR2.out.ok.ok HR2.out.ok (by omega)
     have hlen2 := HH2.out.len
     have HHJ := hid (history_any hT2.is (by omega))
     unfold CloneC at HHJ
     have HRW7 := hid (HR2.out.j.row HO7.out HZ67.out)
     have HBW8 := hid HR2.out.j.b
     clear hT2
     go_wp2_with (go_at_call 10; (with_reducible refine HHJ.out.mono ?_); rintro e w9 ⟨v9, rfl, ho9, hb9⟩; obtain ⟨p9, c9, rfl, hr9, hc9, hp9⟩ := own_shape3 ho9; have HR9 := hid hr9; have HC9 := hid (And.intro hc9 hp9); have HB9 := hid hb9; clear ho9 hb9 hr9 hc9 hp9)
     obtain ⟨WA, hWA⟩ : ∃ WA, WA = w9.alloc (.cells #[.slice p7 S1.calls.length c7, .slice p9 S2.calls.length c9] 32) := ⟨_, rfl⟩
     have hzA : WA.heap.size = w9.heap.size + 1 := by rw [hWA]; simp
     have hbA : Below w9.heap.size w9 WA := by rw [hWA]; exact (Below.refl _ _).alloc (Nat.le_refl _) _
     have hhA : WA.heap[w9.heap.size]? = some (.cells #[.slice p7 S1.calls.length c7, .slice p9 S2.calls.length c9] 32 (0, 0)) := by rw [hWA]; exact heap_alloc_new w9 _
     have HAF : Hid (HalfIs WA w9.heap.size) := by
      intro j hj
      rcases (by omega : j = 0 ∨ j = 1) with rfl | rfl
      ·exact ⟨p7, c7, S1.calls, HH1.out, HC7.out.1, HC7.out.2, (HRW7.out.below HB9.out).below hbA, by rw [cell_of_row _ _ 0 _ _ _ hhA]; rfl, by omega⟩
      ·exact ⟨p9, c9, S2.calls, HH2.out, HC9.out.1, HC9.out.2, HR9.out.below hbA, by rw [cell_of_row _ _ 1 _ _ _ hhA]; rfl, by omega⟩
     have HBA : Hid (Below w.heap.size w WA) := (HBW8.out.trans (HB9.out.mono HBW8.out.size)).trans (hbA.mono (HBW8.out.trans (HB9.out.mono HBW8.out.size)).size)
     rw [← hWA]
     clear hWA hbA hhA
     go_loopw [70] (fun i wr => ∃ j : Nat, j ≤ 2 ∧ i = .int .i64 j ∧ Below WA.heap.size WA wr) (fun i _ => 2 - (intOf i).toNat)
     case atStart => exact ⟨0, by omega, rfl, Below.refl _ _⟩
     case round =>
      rename World => wz
      obtain ⟨j, hj, rfl, hbz⟩ := hrel
      have HBZ := hid hbz
      by_cases hj2 : j < 2
      ·have hjI : (j : Int) < 2 := by omega
       obtain ⟨ph, ch, lh, hf, hcl, hcn, hrw, hce, hlt2⟩ := HAF.out j hj2
       have hcz := (hbz.cell (p := ⟨w9.heap.size, j, none⟩) hlt2).trans hce
       have HHF := hid hf
       have HCL2 := hid hcl
       have HRZ := hid (hrw.below hbz)
       have HFY := hid (findY lh hf ph ch wz hcl hcn (hrw.below hbz))
       clear hf hcl hcn hrw hce hbz
       go_wp2_with (first
        | (go_at_call 13; (with_reducible refine HFY.out.mono ?_); rintro e wf ⟨⟨po, co, oo, rfl, hro, hlg⟩, hbf⟩; have HBF := hid hbf; have HLY := hid (legalY lh HHF.out ph ch oo po co wf HCL2.out (HRZ.out.below hbf) hro hlg); clear hro hlg hbf)
        | (go_at_call 14; (with_reducible refine HLY.out.mono ?_); rintro e wl ⟨rfl, hbl⟩; have HBL := hid hbl; clear hbl))
       exact ⟨⟨j + 1, by omega, by go_num, HBZ.out.trans ((HBF.out.trans (HBL.out.mono HBF.out.size)).mono HBZ.out.size)⟩, by simp [intOf]; omega⟩
      ·have hje : j = 2 := by omega
       subst hje
       go_wp2_with fail
       go_ret
       exact ⟨rfl, HBA.out.trans (HBZ.out.mono HBA.out.size)⟩
 ·have H0 := hid h0
  generalize newTE n (lists zs) = te at *
  go_enter Tryz.func3, Tryz.ntmps3
  go_wp2_with (first
   | (go_at_call 4; (with_reducible refine (HBG.out _).mono ?_); first | (rintro e w1 ⟨rfl, hb1⟩; have HB1 := hid hb1; clear hb1))
   | (go_at_call 5; (with_reducible refine (HFW2.out _ HB1.out).mono ?_); rintro e w2 ⟨bf, rfl, hfo, hb2⟩; have HFO := hid hfo; have HB2 := hid (HB1.out.trans (hb2.mono HB1.out.size)); clear hfo hb2)
   | (go_at_call 6; (with_reducible refine (HNW.out _ HB2.out).mono ?_); rintro e w3 (⟨-, rfl, hb3⟩ | ⟨hz, -⟩); rotate_left; exact (H0.out hz).elim; have HB3 := hid (HB2.out.trans (hb3.mono HB2.out.size)); clear hb3))
  ·go_ret
   exact ⟨rfl, HB2.out.trans (HB1.out.mono HB2.out.size)⟩
  ·go_ret
   exact ⟨rfl, HB3.out⟩
end Go.Proofs.YtabkmdhkfbcldaaGreat
