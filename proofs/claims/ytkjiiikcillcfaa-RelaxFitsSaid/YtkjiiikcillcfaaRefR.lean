/-
  The walks of the document's Rounds and Relax.
-/
import Derived.Test.YtkjiiikcillcfaaRuns
namespace Go.Proofs.Ytkjiiikcillcfaa
open Go.RowKit

theorem E43 : Elem Try.prog 43 23 1 24 (.slice none 0 0) := Elem.mk' Try.underlying43 (by kernel_rfl) rfl (by decide)

/-- A slice of bools where its value says, apart from u's block. -/
def BoolsAt (w : World) (u : Value) (y : Value × List Bool) : Prop := ∃ p c, y.1 = .slice p y.2.length c ∧ Row w p (bools y.2) ∧ ∀ a, p = some a → a.block < w.heap.size ∧ u.ownBlock ≠ some a.block

theorem BoolsAt.below {w w' : World} {u : Value} {y : Value × List Bool} (h : BoolsAt w u y) (hb : Below w.heap.size w w') : BoolsAt w' u y := by
  obtain ⟨p, c, e, hr, ha⟩ := h
  exact ⟨p, c, e, hr.below hb, fun a hp => ⟨Nat.lt_of_lt_of_le (ha a hp).1 hb.size, (ha a hp).2⟩⟩
theorem BoolsAt.app {w w2 w3 : World} {u u' : Value} {y : Value × List Bool} (h : BoolsAt w u y) (hb : Below w.heap.size w w2) (hg : w2.grownBy w3 u.ownBlock) (hs : Stayed w2 u u') : BoolsAt w3 u' y := by
  obtain ⟨p, c, e, hr, ha⟩ := h
  refine ⟨p, c, e, (hr.below hb).kept hg (fun a hp e => (ha a hp).2 e.symm), fun a hp => ⟨?_, ?_⟩⟩
  · have h1 := (ha a hp).1
    have h2 := hb.size
    have h3 := hg.size
    omega
  · have h1 := (ha a hp).1
    have h2 := hb.size
    exact ne_stayed hs (ha a hp).2 (by omega)
theorem BoolsAt.made {w : World} {u v : Value} {n : Nat} {bs : List Bool} {base : Nat} {e : TypeId} (ho : w.ownsRow base e 1 v n (bools bs)) (hn : n = bs.length) (hu : ∀ g, u.ownBlock = some g → g < base) : BoolsAt w u (v, bs) := by
  obtain ⟨p, c, rfl, _, _, hr, _, hge⟩ := own_row ho
  refine ⟨p, c, by rw [hn], hr, fun a hp => ⟨own_lt ho a.block (by subst hp; rfl), fun h => ?_⟩⟩
  have := hu _ h
  have := hge a hp
  omega

def lenOf : Value → Nat
  | .slice _ n _ => n
  | _ => 0

def BoolsList (w : World) (base : Nat) (v : Value) (bss : List (List Bool)) : Prop :=
  ∃ ys : List (Value × List Bool), ys.map (·.2) = bss ∧ w.ownsRow base 23 1 v ys.length (ys.map (·.1)) ∧ ∀ y ∈ ys, BoolsAt w v y

set_option maxHeartbeats 1000000 in
theorem refRounds_any (p : Option Addr) (c : Nat) (xs : List It) (w : World) (hm : xs.length ≤ 1000000) (hrow : Row w p (itCells xs)) :
    Calls Try.prog 29 #[.slice p xs.length c] w fun e w' => ∃ v, e = .returned v ∧ BoolsList w' w.heap.size v (roundsP xs) ∧ Below w.heap.size w w' := by
  have HRD := hid (fun (q : Option Addr) (d : Nat) (ls : List Bool) (w1 : World) (h2 : ls.length = xs.length) (hb : Below w.heap.size w w1) (hr : Row w1 q (bools ls)) => h2 ▸ refRound_any p c xs q d ls w1 hm (hrow.below hb) hr)
  have HZ : Hid (zeros xs = List.replicate xs.length false) := rfl
  go_enter Try.func29, Try.ntmps29
  go_wp2_with ((with_reducible show wpList _ _ _ (⟨some 10, _, _, _, _, _⟩ :: _) _ _); go_loud (refine wpList_mkfull E23 rfl _ _ rfl w.heap.size _ _ _ _ xs.length rfl rfl rfl rfl (by omega) (by unfold maxLen; omega) (Nat.le_refl _) ?_); intro w2 ho2 hg2)
  have hb2 := (Below.refl w.heap.size w).grown hg2 (Nat.le_refl _) (by simp)
  rw [made_one _ _ rfl] at ho2
  go_loopw [3, 4] (fun l o wr => ∃ (f : Nat) (ls : List Bool) (ys : List (Value × List Bool)) (q : Option Addr) (d : Nat), l = .slice q xs.length d ∧ Row wr q (bools ls) ∧ Fair xs ls ∧ ys.length + f = xs.length + 1 ∧ xs.length < cntN ls xs.length + f ∧
      wr.ownsRow w.heap.size 23 1 o ys.length (ys.map (·.1)) ∧ (∀ y ∈ ys, BoolsAt wr o y) ∧ (checkP xs = 0 → ys.map (·.2) ++ runs xs f ls = roundsP xs) ∧ Below w.heap.size w wr) (fun _ o _ => xs.length + 1 - lenOf o)
  case atStart =>
    obtain ⟨q, d, he, _, _, hr, _⟩ := own_row ho2
    injection he with he1 he2 he3
    refine ⟨xs.length + 1, zeros xs, [], q, xs.length, by rw [he1], ?_, fair_zeros xs, by simp, by omega, World.ownsRow_nil _ _ _ _, by simp, fun h => by simp [roundsP, h], hb2⟩
    rw [HZ.out]
    simpa [bools] using hr
  case round =>
    clear hb2 ho2 hg2
    obtain ⟨f, ls, ys, q, d, rfl, hr, hf, hyf, hcf, ho, hys, hruns, hb⟩ := hrel
    have hsz := hb.size
    have hcl := cntN_le ls xs.length
    obtain ⟨f, rfl⟩ : ∃ f', f = f' + 1 := ⟨f - 1, by omega⟩
    have HC := hid (HRD.out q d ls wr hf.len hb hr)
    rcases Classical.em (checkP xs = 0) with hck | hck
    · have hE := off_ok hck hf
      obtain ⟨hR, hM⟩ := rd_ok hck hf
      have hruns := hruns hck
      unfold RdPost at HC
      rw [hE, hR, hM, roundP_len] at HC
      have HST := hid (runs_step hf f hcf)
      have HLS := hid (runs_last xs ls f)
      obtain ⟨M, hMM⟩ : ∃ M, M = moreP xs ls := ⟨_, rfl⟩
      rw [← hMM] at HC HST HLS
      have HRU := hid hruns
      have HF := hid (fair_round xs ls)
      clear hruns hE hR hM hMM hck hf
      by_cases hM0 : M = 0
      · subst hM0
        have HALL : Hid (ys.map (·.2) ++ [roundP xs ls] = roundsP xs) := by
          have h1 := HLS.out rfl
          have h2 := HRU.out
          rw [h1] at h2
          exact h2
        clear HLS HRU
        go_wp2_with (first
          | (go_at_call 25; refine HC.out.mono ?_; rintro e w1 ⟨v, rfl, ho1, hb1⟩; have ho1' := hid ho1; obtain ⟨vp, vc, rfl, hvr⟩ := own_shape ho1; have ho3 := own_below ho hb1; have hsz1 := hb1.size)
          | (((with_reducible show wpList _ _ _ (⟨some 23, _, _, _, _, _⟩ :: _) _ _); go_loud (refine wpList_app E43 rfl _ _ rfl w.heap.size _ _ _ rfl (ho3.alloc _) _ 1 1 [.slice vp xs.length vc] rfl rfl (by simp) (row_newAt _ _ _ _ (by simp)) (by simp [Value.oneCell']) (by unfold maxLen; omega) (by omega) (by simp; omega) ?_); intro v2 w4 ho4 hg4 hs4)))
        have hbw1 := hb.trans (hb1.mono hsz)
        have hb4 := (hbw1.alloc (by omega) _).grown hg4 (by simp; omega) (own_ge ho3)
        have hys2 : ∀ y ∈ ys ++ [(.slice vp xs.length vc, roundP xs ls)], BoolsAt w4 v2 y := by
          intro y hy
          rcases List.mem_append.1 hy with hy | hy
          · exact (hys y hy).app (hb1.alloc hsz1 _) hg4 hs4
          · have h1 := BoolsAt.made (u := u4) ho1'.out (roundP_len xs ls).symm (fun g hg => own_lt ho g hg)
            rw [List.mem_singleton.1 hy]
            exact h1.app ((Below.refl _ _).alloc (Nat.le_refl _) _) hg4 hs4
        have ho5 : w4.ownsRow w.heap.size 23 1 v2 (ys ++ [(Value.slice vp xs.length vc, roundP xs ls)]).length ((ys ++ [(Value.slice vp xs.length vc, roundP xs ls)]).map (·.1)) := by simpa using ho4
        have HMAP : Hid ((ys ++ [(Value.slice vp xs.length vc, roundP xs ls)]).map (·.2) = ys.map (·.2) ++ [roundP xs ls]) := by simp [Hid]
        go_wp2_with fail
        go_ret
        exact ⟨_, rfl, ⟨_, HMAP.out.trans HALL.out, ho5, hys2⟩, hb4⟩
      · obtain ⟨hcf2, HST⟩ := HST.out hM0
        have HST := hid HST
        have hne : ((M : Int) == 0) = false := by simpa using hM0
        go_wp2_with (first
          | (go_at_call 25; refine HC.out.mono ?_; rintro e w1 ⟨v, rfl, ho1, hb1⟩; have ho1' := hid ho1; obtain ⟨vp, vc, rfl, hvr⟩ := own_shape ho1; have ho3 := own_below ho hb1; have hsz1 := hb1.size)
          | (((with_reducible show wpList _ _ _ (⟨some 23, _, _, _, _, _⟩ :: _) _ _); go_loud (refine wpList_app E43 rfl _ _ rfl w.heap.size _ _ _ rfl (ho3.alloc _) _ 1 1 [.slice vp xs.length vc] rfl rfl (by simp) (row_newAt _ _ _ _ (by simp)) (by simp [Value.oneCell']) (by unfold maxLen; omega) (by omega) (by simp; omega) ?_); intro v2 w4 ho4 hg4 hs4)))
        have hbw1 := hb.trans (hb1.mono hsz)
        have hb4 := (hbw1.alloc (by omega) _).grown hg4 (by simp; omega) (own_ge ho3)
        have hys2 : ∀ y ∈ ys ++ [(.slice vp xs.length vc, roundP xs ls)], BoolsAt w4 v2 y := by
          intro y hy
          rcases List.mem_append.1 hy with hy | hy
          · exact (hys y hy).app (hb1.alloc hsz1 _) hg4 hs4
          · have h1 := BoolsAt.made (u := u4) ho1'.out (roundP_len xs ls).symm (fun g hg => own_lt ho g hg)
            rw [List.mem_singleton.1 hy]
            exact h1.app ((Below.refl _ _).alloc (Nat.le_refl _) _) hg4 hs4
        have ho5 : w4.ownsRow w.heap.size 23 1 v2 (ys ++ [(Value.slice vp xs.length vc, roundP xs ls)]).length ((ys ++ [(Value.slice vp xs.length vc, roundP xs ls)]).map (·.1)) := by simpa using ho4
        have HMAP : Hid ((ys ++ [(Value.slice vp xs.length vc, roundP xs ls)]).map (·.2) = ys.map (·.2) ++ [roundP xs ls]) := by simp [Hid]
        go_wp2_with fail
        go_roundw
        case rel =>
          refine ⟨f, roundP xs ls, _, vp, vc, rfl, (hvr.alloc _).kept hg4 ?_, HF.out, ?_, hcf2, ho5, hys2, fun _ => ?_, hb4⟩
          · intro a ha e
            have h1 := own_lt ho a.block e.symm
            have h2 := own_ge ho1'.out a.block (by subst ha; rfl)
            omega
          · simp; omega
          · rw [HMAP.out, List.append_assoc, List.singleton_append, ← HST.out]; exact HRU.out
        case measure =>
          obtain ⟨q2, d2, hq2, _⟩ := own_shape ho
          obtain ⟨q5, d5, hq5, _⟩ := own_shape ho5
          rw [hq2, hq5]
          simp only [lenOf, List.length_append, List.length_singleton]
          omega
    · have hE : offErr xs ls ≠ 0 := by simp [offErr, hck]
      have HRO : Hid (roundsP xs = []) := by simp [Hid, roundsP, hck]
      unfold RdPost at HC
      obtain ⟨E, hEE⟩ : ∃ E, E = offErr xs ls := ⟨_, rfl⟩
      rw [← hEE] at HC hE
      have hne : (E != 0) = true := by simpa using hE
      clear hE hEE hck hruns
      go_wp2_with (go_at_call 25; refine HC.out.mono ?_; rintro e w1 ⟨v, rfl, ho1, hb1⟩)
      go_ret
      exact ⟨_, rfl, ⟨[], by rw [HRO.out]; rfl, World.ownsRow_nil _ _ _ _, by simp⟩, hb.trans (hb1.mono hsz)⟩
end Go.Proofs.Ytkjiiikcillcfaa
