/-
  end of the document's deque; Left.
-/
import Derived.Test.YtpgdpddmgljpmaaR3
import Derived.Test.YtpgdpddmgljpmaaAppStep
namespace Go.Proofs.Ytpgdpddmgljpmaa
open Go.RowKit
variable {W W' : World} {c : RC} {av : Nat → Value} {R : Dq} {i : Nat} {x : Hd} {s : SS}

theorem apart_type0 {W : World} {b1 b2 : Nat} {e1 e2 : TypeId} {s1 s2 n1 n2 : Nat} {v u : Value} {xs ys : List Value} (h1 : W.ownsRow b1 e1 s1 v n1 xs) (h2 : W.ownsRow b2 e2 s2 u n2 ys) (hne : e1 ≠ e2) : Apart v u := fun g hg hu => by
  obtain ⟨c1, k1⟩ := own_typeA h1 g hg
  obtain ⟨c2, k2⟩ := own_typeA h2 g hu
  exact typ_ne k1 k2 hne rfl
/-- An answer more: its row has grown, and the row's cell is set. -/
theorem RefIs.says (H : RefIs W c av R) (i : Nat) (hi : i < R.hs.length) (a : Bool × Int) (v' : Value) {w4 : World} (ho : Only [(av i).ownBlock] W w4)
    (hown : w4.ownsRow c.base 40 2 v' (R.hs[i].said.length + 1) (ansCells R.hs[i].said ++ [.bool a.1, i64 a.2])) (hst : Stayed W (av i) v') (y : Hd) (hy : y = { R.hs[i] with said := R.hs[i].said ++ [a] }) :
    RefIs (w4.setCell ⟨c.AB, i, none⟩ v') c (fun j => if j = i then v' else av j) { R with hs := R.hs.set i y } := by
  have kblk : ∀ (b : Nat) (ds : Array Value) (f : TypeId), W.heap[b]? = some (.cells ds f (0, 0)) → f ≠ 40 → w4.heap[b]? = W.heap[b]? := fun b ds f hb hf => ho.block b (Array.getElem?_eq_some_iff.1 hb).1 (by
    simp only [List.mem_singleton]
    intro e
    exact own_ne (H.an i hi) hb (Ne.symm hf) b e.symm rfl)
  have haa4 : w4.heap[c.AB]? = some (.cells ((List.range R.hs.length).map av).toArray 37 (0, 0)) := (kblk _ _ _ H.aa (by decide)).trans H.aa
  have keep : ∀ b, b ≠ c.AB → (w4.setCell ⟨c.AB, i, none⟩ v').heap[b]? = w4.heap[b]? := fun b hb => Below.heap_setCell w4 _ _ b hb
  have hl : (R.hs.set i y).length = R.hs.length := List.length_set
  have hod : ∀ k (h : k < R.hs.length), ((R.hs.set i y)[k]'(by rw [hl]; exact h)).ops = R.hs[k].ops := fun k h => by
    rw [List.getElem_set]; split
    · subst_vars; rfl
    · rfl
  have hoth : ∀ k (h : k < R.hs.length), k ≠ i → (R.hs.set i y)[k]'(by rw [hl]; exact h) = R.hs[k] := fun k h hk => by rw [List.getElem_set, if_neg (Ne.symm hk)]
  have oo4 : w4.ownsRow c.base 25 1 (.slice c.op R.hs.length c.oc) R.hs.length ((List.range R.hs.length).map c.ov) := own_only H.oo ho (fun g hg hm => by
    simp only [List.mem_singleton] at hm
    exact apart_type0 H.oo (H.an i hi) (by decide) g hg hm.symm)
  have an4 : ∀ k (h : k < R.hs.length), k ≠ i → w4.ownsRow c.base 40 2 (av k) R.hs[k].said.length (ansCells R.hs[k].said) := fun k h hk => own_only (H.an k h) ho (fun g hg hm => by
    simp only [List.mem_singleton] at hm
    exact H.ap k i h hi hk g hg hm.symm)
  refine ⟨?_, (keep _ (typ_ne H.qq H.aa (by decide))).trans ((kblk _ _ _ H.qq (by decide)).trans H.qq), ?_, ?_, ?_, ?_, ?_, ?_, by have := H.bs; have := ho.size; simp; omega, H.br, H.bq, H.bh, H.ba, H.nb⟩ <;> dsimp only
  · rw [hl]; exact (keep _ (typ_ne H.rr H.aa (by decide))).trans ((kblk _ _ _ H.rr (by decide)).trans H.rr)
  · rw [hl]; exact own_setO oo4 _ _ (own_ne oo4 haa4 (by decide))
  · have e : (R.hs.set i y).flatMap hcells = R.hs.flatMap hcells := by
      have h := flat_set hcells 5 hcells_len R.hs i hi 0 (i64 R.hs[i].at_) y (by decide) (by rw [hy]; rfl)
      have h2 := flat_set hcells 5 hcells_len R.hs i hi 0 (i64 R.hs[i].at_) R.hs[i] (by decide) rfl
      rw [← h, h2, List.set_getElem_self]
    rw [e]
    exact (keep _ (typ_ne H.hh H.aa (by decide))).trans ((kblk _ _ _ H.hh (by decide)).trans H.hh)
  · rw [hl]
    refine (heap_setCell_same w4 c.AB i _ _ v' haa4).trans ?_
    congr 2
    apply Array.toList_inj.1
    simp only [Array.toList_setIfInBounds]
    apply List.ext_getElem
    · simp
    · intro k h1 h2
      simp at h1 h2
      by_cases hk : k = i
      · subst hk; simp
      · simp [List.getElem_set, Ne.symm hk, hk]
  · intro k hk
    rw [hl] at hk
    by_cases hki : k = i
    · subst hki
      simp only [List.getElem_set_self, if_true]
      rw [hy]
      dsimp only
      rw [List.length_append, List.length_singleton, ansCells_snoc]
      exact own_setO hown _ _ (own_ne hown haa4 (by decide))
    · rw [hoth k hk hki]
      simp only [if_neg hki]
      exact own_setO (an4 k hk hki) _ _ (own_ne (an4 k hk hki) haa4 (by decide))
  · intro k hk
    rw [hl] at hk
    rw [hod k hk]
    refine rwork_ne ?_ haa4 (Nat.le_trans H.nb H.ba) (by decide) _ _ rfl
    exact (H.ow k hk).only (Nat.le_trans H.nb H.bs) ho (fun b hb hm => by
      simp only [List.mem_singleton] at hm
      refine ⟨Nat.le_trans H.nb (own_ge (H.an i hi) b hm.symm), fun cur fz hc => ?_⟩
      obtain ⟨cur2, hc2⟩ := own_typeA (H.an i hi) b hm.symm
      rw [hc] at hc2; cases hc2)
  · intro a b ha hb hne
    rw [hl] at ha hb
    have hv : ∀ j, j < R.hs.length → j ≠ i → Apart v' (av j) := fun j hj hji => (H.ap i j hi hj (Ne.symm hji)).stayed hst (fun g hg => own_lt (H.an j hj) g hg)
    by_cases hai : a = i
    · have hbi : b ≠ i := fun e => hne (by rw [hai, e])
      simp only [hai, if_true, if_neg hbi]; exact hv b hb hbi
    · by_cases hbi : b = i
      · simp only [hbi, if_true, if_neg hai]; exact (hv a ha hai).symm
      · simp only [if_neg hai, if_neg hbi]; exact H.ap a b ha hb hne
theorem RV.says (H : RV W c av R i x s) (a : Bool × Int) (v' : Value) {w4 : World} (ho : Only [(av i).ownBlock] W w4)
    (hown : w4.ownsRow c.base 40 2 v' (s.said.length + 1) (ansCells s.said ++ [.bool a.1, i64 a.2])) (hst : Stayed W (av i) v') : RV (w4.setCell ⟨c.AB, i, none⟩ v') c (fun j => if j = i then v' else av j) R i x { s with said := s.said ++ [a] } := by
  have hl := upd_len R i x s
  have hg := upd_get R i x s H.at_
  have h := H.is.says i (by rw [hl]; exact H.at_) a v' ho (by rw [hg]; exact hown) hst _ rfl
  rw [hg] at h
  refine ⟨?_, H.at_⟩
  have e : ({ R.upd i x s with hs := (R.upd i x s).hs.set i ⟨x.ops, s.said ++ [a], s.at_, s.t, s.b, s.v, s.won⟩ } : Dq) = R.upd i x { s with said := s.said ++ [a] } := by
    unfold Dq.upd; simp
  rw [← e]; exact h
def rB (c : RC) (av : Nat → Value) (i : Nat) : List (Option Nat) := [some c.r, some c.HB, some c.Q, some c.AB, (av i).ownBlock]
/-- What comes of a piece of the document's code. -/
def RPost (W : World) (c : RC) (av : Nat → Value) (R : Dq) (i : Nat) (x : Hd) (s' : SS) (e : Ending) (W' : World) : Prop :=
  e = .returned (.tuple #[]) ∧ ∃ av', RV W' c av' R i x s' ∧ Only (rB c av i) W W' ∧ ∀ j g, (av' j).ownBlock = some g → (av j).ownBlock = some g ∨ W.heap.size ≤ g

set_option maxRecDepth 100000 in
set_option maxHeartbeats 4000000 in
theorem end_ref (H : RV W c av R i x s) (ok : Bool) (v : Int) (hlen : R.hs.length ≤ 64) (hsl : s.said.length ≤ 1000000) :
    Calls Try.prog 57 #[.pointer (some ⟨c.r, 0, none⟩), .int .i64 i, .bool ok, .int .i64 v] W (RPost W c av R i x (rend s ok v)) := by
  obtain ⟨v2, hv2⟩ : ∃ v2, v2 = if ok then v else 0 := ⟨_, rfl⟩
  have hat := H.at_
  have hatI : (i : Int) < R.hs.length := by omega
  have hl := upd_len R i x s
  have hown := H.is.an i (by rw [hl]; exact hat)
  rw [upd_get _ _ _ _ hat] at hown
  dsimp only at hown
  obtain ⟨ap, ac, hav, hac, _, _, _, _⟩ := own_row hown
  have hge := own_ge hown
  have hltr := H.lt
  have hrow := (H.is.row i (by rw [hl]; exact hat)).2.1
  have hCE := H.cells
  have c5 := hCE.r5
  have c6 := hCE.r6
  rw [hav] at hrow hown
  have HOWN := hid hown
  have HAV := hid hav
  have HH := hid H
  -- behind the append
  have HAFT : Hid (∀ (w4 : World), (W.alloc (.cells #[.bool ok, .int .i64 v2] 40)).drew.grownBy w4 (Value.slice ap s.said.length ac).ownBlock → Only [(av i).ownBlock] W w4 ∧ w4.cell? ⟨c.r, 6, none⟩ = some (.slice (some ⟨c.AB, 0, none⟩) R.hs.length R.hs.length) ∧ w4.cell? ⟨c.AB, i, none⟩ = some (.slice ap s.said.length ac) ∧ w4.frozen? ⟨c.AB, i, none⟩ = false ∧ c.AB < w4.heap.size) := fun w4 hg => by
    have o1 : Only [(av i).ownBlock] W w4 := ((((Only.refl W).alloc (.cells #[.bool ok, .int .i64 v2] 40)).drewN 1).trans (Only.grown hg)).less (fun _ _ h => by simp at h ⊢; rw [HAV.out]; exact h)
    have kb : ∀ (b : Nat) (ds : Array Value) (f : TypeId), W.heap[b]? = some (.cells ds f (0, 0)) → f ≠ 40 → w4.heap[b]? = W.heap[b]? := fun b ds f hb hf => o1.block b (Array.getElem?_eq_some_iff.1 hb).1 (by
      simp only [List.mem_singleton]
      intro e
      rw [HAV.out] at e
      exact own_ne HOWN.out hb (Ne.symm hf) b e.symm rfl)
    refine ⟨o1, ?_, ?_, ?_, Nat.lt_of_lt_of_le hltr.2.2.2 o1.size⟩
    · exact (World.cell?_of_block (a := ⟨c.r, 6, none⟩) (kb _ _ _ HH.out.is.rr (by decide))).trans c6
    · exact (World.cell?_of_block (a := ⟨c.AB, i, none⟩) (kb _ _ _ HH.out.is.aa (by decide))).trans hrow
    · exact frozen_of_row w4 c.AB i _ _ ((kb _ _ _ HH.out.is.aa (by decide)).trans HH.out.is.aa)
  have HBS : Hid (c.base ≤ W.heap.size) := HH.out.is.bs
  have HLT := hid hltr
  have hlt1 : c.r < W.heap.size := hltr.1
  have hlt4 : c.AB < W.heap.size := hltr.2.2.2
  clear hown hav H hCE hge hltr
  cases ok with
  | false =>
    simp only [if_true, Bool.false_eq_true, if_false] at hv2
    have HV2 := hid hv2
    subst hv2
    go_enter Try.func57, Try.ntmps57
    go_upto_region 2 with (fail)
    go_cut [2] from 10 (fun u wx => ∃ v4, u = .bool false ∧ RV wx c (fun j => if j = i then v4 else av j) R i x { s with said := s.said ++ [(false, 0)] } ∧ Only [(av i).ownBlock, some c.AB] W wx ∧ Stayed W (av i) v4)
    case first =>
      go_region_law (go_loud (refine step_app E37 rfl (.tmp 21) (.tmp 25) rfl c.base (.slice ap s.said.length ac) s.said.length _ rfl (HOWN.out.alloc _) ⟨_, 0, none⟩ 1 1 [.bool false, .int .i64 0] rfl rfl (row_newAt _ _ _ _ (by simp)) (by simp [Value.oneCell']) (by unfold maxLen; omega) (by omega) (by have h1 := HBS.out; simp; omega) ?_); intro v4 w4 ho4 hg4 hs4; obtain ⟨ap4, ac4, rfl, _, _, _, _, _⟩ := own_row ho4; obtain ⟨o4, a6, a7, f7, lt7⟩ := HAFT.out w4 hg4)
      all_goals
        go_wp2_with fail
        go_meet
        exact ⟨_, rfl, HH.out.says (false, 0) _ o4 ho4 (by rw [HAV.out]; intro g hg; exact (hs4 g hg).imp id (fun h => by simp at h; omega)), (o4.less (fun _ _ h => by simp at h ⊢; exact .inl h)).set ⟨c.AB, i, none⟩ _ (.inl (by simp)), by rw [HAV.out]; intro g hg; exact (hs4 g hg).imp id (fun h => by simp at h; omega)⟩
    case rest =>
      obtain ⟨v4, rfl, hv4, ho4, hs4⟩ := hcut
      have HV4 := hid hv4
      have HO4 := hid ho4
      have HS4 := hid hs4
      have hCC := hv4.cells
      have r5 := hCC.r5
      have h0 := hCC.h0
      have h1 := hCC.h1
      have h2 := hCC.h2
      have h3 := hCC.h3
      have h4 := hCC.h4
      have f0 := hCC.fh (i * 5)
      have f1 := hCC.fh (i * 5 + 1)
      have f2 := hCC.fh (i * 5 + 2)
      have f3 := hCC.fh (i * 5 + 3)
      have f4 := hCC.fh (i * 5 + 4)
      clear hCC hv4 ho4 hs4 c5 c6 hrow
      go_wp2_with fail
      go_end0
      refine ⟨rfl, fun j => if j = i then v4 else av j, ((((HV4.out.setAt 0).setT 0).setB 0).setWon false).setV 0, ?_, ?_⟩
      · have o1 := HO4.out.wide (B := rB c av i) (fun u hu => by simp [rB] at hu ⊢; rcases hu with rfl | rfl <;> simp)
        exact ((((o1.set ⟨c.HB, i * 5, none⟩ _ (.inl (by simp [rB]))).set ⟨c.HB, i * 5 + 1, none⟩ _ (.inl (by simp [rB]))).set ⟨c.HB, i * 5 + 2, none⟩ _ (.inl (by simp [rB]))).set ⟨c.HB, i * 5 + 3, none⟩ _ (.inl (by simp [rB]))).set ⟨c.HB, i * 5 + 4, none⟩ _ (.inl (by simp [rB]))
      · intro j g hg
        by_cases hj : j = i
        · subst hj; simp only [if_true] at hg; exact HS4.out g hg
        · simp only [if_neg hj] at hg; exact .inl hg
  | true =>
    simp only [if_true, Bool.false_eq_true, if_false] at hv2
    have HV2 := hid hv2
    subst hv2
    go_enter Try.func57, Try.ntmps57
    go_upto_region 2 with (fail)
    go_cut [2] from 10 (fun u wx => ∃ v4, u = .bool true ∧ RV wx c (fun j => if j = i then v4 else av j) R i x { s with said := s.said ++ [(true, v2)] } ∧ Only [(av i).ownBlock, some c.AB] W wx ∧ Stayed W (av i) v4)
    case first =>
      go_region_law (go_loud (refine step_app E37 rfl (.tmp 21) (.tmp 25) rfl c.base (.slice ap s.said.length ac) s.said.length _ rfl (HOWN.out.alloc _) ⟨_, 0, none⟩ 1 1 [.bool true, .int .i64 v2] rfl rfl (row_newAt _ _ _ _ (by simp)) (by simp [Value.oneCell']) (by unfold maxLen; omega) (by omega) (by have h1 := HBS.out; simp; omega) ?_); intro v4 w4 ho4 hg4 hs4; obtain ⟨ap4, ac4, rfl, _, _, _, _, _⟩ := own_row ho4; obtain ⟨o4, a6, a7, f7, lt7⟩ := HAFT.out w4 hg4)
      all_goals
        go_wp2_with fail
        go_meet
        exact ⟨_, rfl, HH.out.says (true, v2) _ o4 ho4 (by rw [HAV.out]; intro g hg; exact (hs4 g hg).imp id (fun h => by simp at h; omega)), (o4.less (fun _ _ h => by simp at h ⊢; exact .inl h)).set ⟨c.AB, i, none⟩ _ (.inl (by simp)), by rw [HAV.out]; intro g hg; exact (hs4 g hg).imp id (fun h => by simp at h; omega)⟩
    case rest =>
      obtain ⟨v4, rfl, hv4, ho4, hs4⟩ := hcut
      have HV4 := hid hv4
      have HO4 := hid ho4
      have HS4 := hid hs4
      have hCC := hv4.cells
      have r5 := hCC.r5
      have h0 := hCC.h0
      have h1 := hCC.h1
      have h2 := hCC.h2
      have h3 := hCC.h3
      have h4 := hCC.h4
      have f0 := hCC.fh (i * 5)
      have f1 := hCC.fh (i * 5 + 1)
      have f2 := hCC.fh (i * 5 + 2)
      have f3 := hCC.fh (i * 5 + 3)
      have f4 := hCC.fh (i * 5 + 4)
      clear hCC hv4 ho4 hs4 c5 c6 hrow
      go_wp2_with fail
      go_end0
      refine ⟨rfl, fun j => if j = i then v4 else av j, ((((HV4.out.setAt 0).setT 0).setB 0).setWon false).setV 0, ?_, ?_⟩
      · have o1 := HO4.out.wide (B := rB c av i) (fun u hu => by simp [rB] at hu ⊢; rcases hu with rfl | rfl <;> simp)
        exact ((((o1.set ⟨c.HB, i * 5, none⟩ _ (.inl (by simp [rB]))).set ⟨c.HB, i * 5 + 1, none⟩ _ (.inl (by simp [rB]))).set ⟨c.HB, i * 5 + 2, none⟩ _ (.inl (by simp [rB]))).set ⟨c.HB, i * 5 + 3, none⟩ _ (.inl (by simp [rB]))).set ⟨c.HB, i * 5 + 4, none⟩ _ (.inl (by simp [rB]))
      · intro j g hg
        by_cases hj : j = i
        · subst hj; simp only [if_true] at hg; exact HS4.out g hg
        · simp only [if_neg hj] at hg; exact .inl hg
end Go.Proofs.Ytpgdpddmgljpmaa
