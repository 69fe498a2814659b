/-
  The walk of the function that relax.Rounds hands back.
-/
import Derived.Test.YtkjiiikcillcfaaIter
import Derived.WalkMore
namespace Go.Proofs.Ytkjiiikcillcfaa
open Go.RowKit
attribute [local go_sem] Oper.semAt_some
theorem wide_fn (f : FuncId) : Fence.wide.fn f = True := rfl
theorem wide_depth : Fence.wide.depth = none := rfl
attribute [local go_sem] wide_fn wide_depth

/-- What Rounds tells of each value: a slice of bools, laid since the last round. -/
def VB (xs : List It) (pre : List (Value × List Bool)) (hs : Nat) (y : Value × List Bool) (W : World) : Prop := (∃ suf, (pre ++ [y]).map (·.2) ++ suf = roundsP xs) ∧ ∃ p c, y.1 = .slice p y.2.length c ∧ (p = none → c = 0) ∧ Row W p (bools y.2) ∧ ∀ a, p = some a → hs ≤ a.block ∧ a.block < W.heap.size
def StB (W W' : World) : Prop := Below W.heap.size W W'

/-- How many of a row's cells hold true. -/
noncomputable def cntW (v : Value) (w : World) : Nat :=
  match v with
  | .slice (some ⟨b, o, none⟩) n _ => ((List.range n).filter (fun i => @decide (w.cell? ⟨b, o + i, none⟩ = some (.bool true)) (Classical.propDecidable _))).length
  | _ => 0
theorem filter_congr' {α : Type} {f g : α → Bool} : ∀ (l : List α), (∀ x ∈ l, f x = g x) → l.filter f = l.filter g
  | [], _ => rfl
  | a :: l, h => by
    have h1 := h a (by simp)
    have h2 := filter_congr' l (fun x hx => h x (by simp [hx]))
    simp only [List.filter_cons, h1, h2]
theorem cntW_row {w : World} {q : Option Addr} {d : Nat} {ls : List Bool} (h : Row w q (bools ls)) : cntW (.slice q ls.length d) w = cntN ls ls.length := by
  by_cases h0 : ls = []
  · subst h0
    cases q with
    | none => rfl
    | some a =>
      obtain ⟨b, o, s⟩ := a
      cases s <;> rfl
  · obtain ⟨b, o, rfl, _⟩ := h (by simpa [bools] using h0)
    unfold cntW cntN
    simp only
    congr 1
    apply filter_congr'
    intro x hx
    have hx := List.mem_range.1 hx
    have := h.cell x (by simpa [bools] using hx)
    rw [this]
    simp only [bools, List.getElem_map, List.getD, List.getElem?_eq_getElem hx, Option.getD_some]
    cases hb : ls[x] <;> simp [hb]

theorem Row.keepsT {T : Nat → Prop} {W W' : World} {p : Option Addr} {cs : List Value} (h : Row W p cs) (hk : KeepsT T W W') (ht : ∀ a, p = some a → T a.block ∧ a.block < W.heap.size) : Row W' p cs := by
  intro hcs
  obtain ⟨b, o, rfl, hc⟩ := h hcs
  exact ⟨b, o, rfl, fun i hi => (World.cell?_of_block (hk.same b (ht _ rfl).1 (ht _ rfl).2)).trans (hc i hi)⟩

/-- What the loop of Rounds' function holds between two rounds. -/
def IterInv (xs : List It) (b : Nat) (q : Option Addr) (d : Nat) (J : List (Value × List Bool) → (Nat → Prop) → Nat → World → Prop) (l : Value) (wr : World) : Prop :=
  ∃ (pre : List (Value × List Bool)) (T : Nat → Prop) (hs f : Nat) (ls : List Bool) (q1 : Option Addr) (d1 : Nat), l = .slice q1 xs.length d1 ∧ Row wr q1 (bools ls) ∧ Fair xs ls ∧ xs.length < cntN ls xs.length + f ∧ pre.map (·.2) ++ runs xs f ls = roundsP xs ∧ J pre T hs wr ∧
    wr.cell? ⟨b, 0, none⟩ = some (.slice q xs.length d) ∧ Row wr q (itCells xs) ∧ T b ∧ b < wr.heap.size ∧ (∀ a, q = some a → T a.block ∧ a.block < wr.heap.size) ∧ hs ≤ wr.heap.size

theorem wpInW_scope {n : Nat} {P : Program} {c : Code} {Q : Exit → Act → World → Prop} {a : Act} {w : World} (h : c.wpIn Fence.wide n P (Exit.noGoto Q) a w) : (Code.scope c).wpIn Fence.wide n P Q a w := wpIn_wide.2 (wp_scope_straight (wpIn_wide.1 h))

theorem rounds1_seq (n : Nat) (hn : 1 ≤ n) (xs : List It) (hm : xs.length ≤ 1000000) (b : Nat) (q : Option Addr) (d : Nat) (w : World) (hbw : b < w.heap.size) (hcb : w.cell? ⟨b, 0, none⟩ = some (.slice q xs.length d)) (hrow : Row w q (itCells xs)) (hqb : ∀ a, q = some a → a.block < w.heap.size) :
    SeqV Fence.wide n Try.prog 41 #[.pointer (some ⟨b, 0, none⟩)] (fun y : Value × List Bool => #[y.1]) (VB xs) StB (fun k => k = b ∨ ∃ a, q = some a ∧ a.block = k) (fun ys => ys.map (·.2) = roundsP xs) (fun pre => ∃ suf, pre.map (·.2) ++ suf = roundsP xs) w := by
  intro l J Jx W hW hJ hJx hY h0
  have hc0 := (hW.cell (p := ⟨b, 0, none⟩) hbw).trans hcb
  have hr0 := hrow.below hW
  have hszW := hW.size
  have HCK := hid (check_any q d xs W hm hr0)
  show CallsIn Fence.wide n Try.prog 41 #[.func (.yield l) #[] #[], .pointer (some ⟨b, 0, none⟩)] W _
  refine callsIn_of_wp Try.func41 rfl (show Fence.wide.fn 41 from trivial) ?_ rfl
  simp only [Try.ntmps41, List.size_toArray, List.length_cons, List.length_nil, Nat.reduceAdd, Nat.reduceSub, Array.replicate_succ, Array.replicate_zero, List.push_toArray, List.append_toArray, List.nil_append, List.cons_append]
  rcases Classical.em (checkP xs = 0) with hck | hck
  · rw [hck] at HCK
    refine wpInW_scope ?_
    gi_wp2_with (first
      | ((with_reducible show Code.wpIn _ _ _ (Code.label _) _ _ _); go_loud (refine wpIn_label ?_))
      | (gi_at_call 19; refine (callsIn_wide.2 HCK.out).mono ?_; rintro e w1 ⟨rfl, hb1⟩; have hc1 := (hb1.cell (p := ⟨b, 0, none⟩) (Nat.lt_of_lt_of_le hbw hszW)).trans hc0; have hsz1 := hb1.size; have hr1 := hr0.below hb1)
      | (((with_reducible show wpListIn _ _ _ _ _ (⟨some 11, _, _, _, _, _⟩ :: _) _ _); go_loud (refine wpListIn_mkfull E23 rfl _ _ rfl w1.heap.size _ _ _ _ xs.length rfl rfl rfl rfl (by omega) (by unfold maxLen; omega) (Nat.le_refl _) ?_); intro w2 ho2 hg2)))
    have hbw2 : Below W.heap.size W w2 := hb1.grown hg2 hsz1 (by simp)
    rw [made_one _ _ rfl] at ho2
    obtain ⟨q1, d1, he1, _, _, hr1', _, hge1⟩ := own_row ho2
    injection he1 with he1 _ he3
    have h0' := hJ _ _ _ _ _ h0 hbw2
    have hsz2 := hbw2.size
    have hst : IterInv xs b q d J (.slice (some ⟨w1.heap.size, 0, none⟩) xs.length xs.length) w2 := by
      refine ⟨[], _, W.heap.size, xs.length + 1, zeros xs, some ⟨w1.heap.size, 0, none⟩, xs.length, rfl, ?_, fair_zeros xs, by omega, by simp [roundsP, hck], h0', (hbw2.cell (p := ⟨b, 0, none⟩) (Nat.lt_of_lt_of_le hbw hszW)).trans hc0, hr0.below hbw2, .inl rfl, by omega, fun a ha => ⟨.inr ⟨a, ha, rfl⟩, by have := hqb a ha; omega⟩, hsz2⟩
      rw [he1]
      simpa [bools, zeros] using hr1'
    clear hr1' he1 hge1 he3 h0' ho2 hg2 hbw2 hb1 hc1 hsz1 hr1 h0 hc0 hr0 HCK
    gi_loopw [3] (fun l wr => IterInv xs b q d J l wr) (fun l wr => xs.length + 1 - cntW l wr)
    case atStart => exact hst
    case round =>
      clear hst
      obtain ⟨pre, T, hs, f, ls, q1, d1, rfl, hr1, hf, hcf, hruns, hJ0, hcb0, hrq, hTb, hbs, hTq, hhs⟩ := hrel
      have hcl := cntN_le ls xs.length
      obtain ⟨f, rfl⟩ : ∃ f', f = f' + 1 := ⟨f - 1, by omega⟩
      have HC := hid (round_any q d xs q1 d1 ls wr hck hf.len hrq hr1)
      unfold RndPost at HC
      have HST := hid (runs_step hf f hcf)
      have HLS := hid (runs_last xs ls f)
      have HCW : Hid (cntW (.slice q1 xs.length d1) wr = cntN ls xs.length) := by
        have := cntW_row (d := d1) hr1
        rw [hf.len] at this
        exact this
      obtain ⟨M, hMM⟩ : ∃ M, M = moreP xs ls := ⟨_, rfl⟩
      rw [← hMM] at HC HST HLS
      have HRU := hid hruns
      have HF := hid (fair_round xs ls)
      have HCR := hid (cnt_round hf xs.length)
      have HM := hid hMM
      clear hruns hMM hf
      gi_wp2_with (first
        | (gi_at_call 39; refine (callsIn_wide.2 HC.out).mono ?_; rintro e w1 ⟨v, rfl, ho1, hb1⟩; have ho1' := hid ho1; obtain ⟨vp, vc, rfl, _, _, hvr, _, hvge⟩ := own_row ho1; have hsz1 := hb1.size)
        | (((with_reducible show wpListIn _ _ _ _ _ (⟨some 20, _, _, _, _, _⟩ :: _) _ _); go_loud (refine wpListIn_app E23 rfl _ _ rfl w1.heap.size (.slice none 0 0) 0 [] rfl (World.ownsRow_nil _ _ _ _) _ _ _ (bools (roundP xs ls)) rfl (by simp [bools, roundP_len]) (own_nilcap ho1'.out) hvr (by intro u hu; simp [bools] at hu; rcases hu with ⟨_, rfl⟩ | ⟨_, rfl⟩ <;> rfl) (by unfold maxLen; omega) (by omega) (Nat.le_refl _) ?_); intro v3 w3 ho3 hg3 hs3; rw [Nat.zero_add, List.nil_append] at ho3; obtain ⟨yp, yc, rfl, _, _, hyr, _, hyge⟩ := own_row ho3;
            have hb3 : Below wr.heap.size wr w3 := hb1.grown hg3 hsz1 (by simp [Value.ownBlock]);
            have hV : VB xs pre hs (.slice yp xs.length yc, roundP xs ls) w3 := ⟨⟨if moreP xs ls = 0 then [] else runs xs f (roundP xs ls), (by rw [List.map_append, List.append_assoc]; exact HRU.out)⟩, yp, yc, by rw [roundP_len], own_nilcap ho3, hyr, fun a ha => ⟨by have := hyge a ha; omega, own_lt ho3 a.block (by subst ha; rfl)⟩⟩;
            obtain ⟨fn, tmps, assign, body, hy, hR⟩ := hY pre T hs (.slice yp xs.length yc, roundP xs ls) w3 (hJ _ _ _ _ _ hJ0 hb3) hV)))
      refine hR.mono ?_
      clear hR hy
      have hszr := hb3.size
      rintro e W3 (⟨rfl, hJ3, hk3⟩ | ⟨rfl, hJx3⟩)
      · have hmq : ∀ a, q = some a → more T hs w3 a.block ∧ a.block < w3.heap.size := fun a ha => ⟨.inl (hTq a ha).1, by have := (hTq a ha).2; omega⟩
        have hsz3 := hk3.size
        have hmv : ∀ a, vp = some a → more T hs w3 a.block ∧ a.block < w3.heap.size := fun a ha => by
          have h1 := hvge a ha
          have h2 := own_lt ho1'.out a.block (by subst ha; rfl)
          have h3 : w1.heap.size ≤ w3.heap.size := hg3.size
          exact ⟨.inr ⟨by omega, by omega⟩, by omega⟩
        have hbW : b < w3.heap.size := by omega
        have hcb3 : W3.cell? ⟨b, 0, none⟩ = some (.slice q xs.length d) := ((World.cell?_of_block (hk3.same b (.inl hTb) hbW)).trans (hb3.cell (p := ⟨b, 0, none⟩) hbs)).trans hcb0
        have hrq3 := (hrq.below hb3).keepsT hk3 hmq
        have hvr3 : Row W3 vp (bools (roundP xs ls)) := (hvr.kept hg3 (by simp [Value.ownBlock])).keepsT hk3 hmv
        have HMAP : Hid ((pre ++ [(Value.slice yp xs.length yc, roundP xs ls)]).map (·.2) = pre.map (·.2) ++ [roundP xs ls]) := by simp [Hid]
        by_cases hM0 : M = 0
        · have HALL : Hid ((pre ++ [(Value.slice yp xs.length yc, roundP xs ls)]).map (·.2) = roundsP xs) := by
            have h1 := HLS.out hM0
            have h2 := HRU.out
            rw [h1] at h2
            exact HMAP.out.trans h2
          subst hM0
          clear HLS HRU HST HM HMAP
          gi_wp2
          rw [Exit.noGoto_normal]
          go_end0
          exact ⟨⟨_, rfl⟩, .inl ⟨_, _, _, HALL.out, hJ3⟩⟩
        · obtain ⟨hcf2, HS2⟩ := HST.out hM0
          have HS2 := hid HS2
          have hne : ((M : Int) == 0) = false := by simpa using hM0
          clear HLS HST
          gi_wp2
          go_roundw
          case rel =>
            refine ⟨_, _, _, f, roundP xs ls, vp, vc, rfl, hvr3, HF.out, hcf2, ?_, hJ3, hcb3, hrq3, .inl hTb, by omega, fun a ha => ⟨(hmq a ha).1, by have := (hmq a ha).2; omega⟩, Nat.le_refl _⟩
            rw [HMAP.out, List.append_assoc, List.singleton_append, ← HS2.out]
            exact HRU.out
          case measure =>
            have h1 := cntW_row (d := vc) hvr3
            rw [roundP_len] at h1
            have h2 := HCR.out
            rw [h1, HCW.out, h2]
            have h3 : 1 ≤ moreN xs ls xs.length := by
              have h4 := HM.out
              unfold moreP at h4
              omega
            omega
      · have HMAP : Hid ((pre ++ [(Value.slice yp xs.length yc, roundP xs ls)]).map (·.2) = pre.map (·.2) ++ [roundP xs ls]) := by simp [Hid]
        have HALL : Hid (∃ suf, (pre ++ [(Value.slice yp xs.length yc, roundP xs ls)]).map (·.2) ++ suf = roundsP xs) := by
          refine ⟨if moreP xs ls = 0 then [] else runs xs f (roundP xs ls), ?_⟩
          rw [HMAP.out, List.append_assoc, List.singleton_append]; exact HRU.out
        clear HLS HRU HST HM HMAP
        gi_wp2
        rw [Exit.noGoto_normal]
        go_end0
        exact ⟨⟨_, rfl⟩, .inr ⟨_, HALL.out, hJx3⟩⟩
  · have HALL : Hid (roundsP xs = []) := by simp [Hid, roundsP, hck]
    obtain ⟨E, hE⟩ : ∃ E, E = checkP xs := ⟨_, rfl⟩
    rw [← hE] at HCK hck
    have hne : (E != 0) = true := by simpa using hck
    clear hE hck
    refine wpInW_scope ?_
    gi_wp2_with (gi_at_call 19; refine (callsIn_wide.2 HCK.out).mono ?_; rintro e w1 ⟨rfl, hb1⟩)
    rw [Exit.noGoto_ret]
    refine bodyPost_ret (results_none rfl _ _ _) rfl ?_
    exact ⟨⟨_, rfl⟩, .inl ⟨[], _, _, by rw [HALL.out]; rfl, hJ _ _ _ _ _ h0 hb1⟩⟩
end Go.Proofs.Ytkjiiikcillcfaa
