/-
  What a deque tells: Workers, Steps, Left, Answers.
-/
import Derived.Test.YtpgdpddmgljpmaaD6
import Derived.Lib.SliceRun
namespace Go.Proofs.Ytpgdpddmgljpmaa
open Go.RowKit
variable {w w' : World} {base d P c : Nat} {hsv : Value} {hb : Nat → Nat} {sv wv : Nat → Value} {S : Dq}

theorem workers_nil (w : World) : Calls Try.prog 13 #[.pointer none] w fun e w' => e = .returned (.int .i64 0) ∧ w' = w := by
  go_enter Try.func13, Try.ntmps13
  go_wp2
  go_ret
  exact ⟨rfl, rfl⟩
theorem workers_any (H : DqIs w base d P c hsv hb sv wv S) : Calls Try.prog 13 #[.pointer (some ⟨d, 0, none⟩)] w fun e w' => e = .returned (.int .i64 S.hs.length) ∧ w' = w := by
  have c4 := cell_of_row w d 4 _ _ _ H.dd
  simp at c4
  obtain ⟨hp, hc, hhs, _⟩ := own_row H.hown
  rw [hhs] at c4
  go_enter Try.func13, Try.ntmps13
  go_wp2
  go_ret
  exact ⟨rfl, rfl⟩
theorem steps_nil (w : World) : Calls Try.prog 28 #[.pointer none] w fun e w' => e = .returned (i64 0) ∧ w' = w := by
  go_enter Try.func28, Try.ntmps28
  go_wp2
  go_ret
  exact ⟨rfl, rfl⟩
theorem steps_any (H : DqIs w base d P c hsv hb sv wv S) : Calls Try.prog 28 #[.pointer (some ⟨d, 0, none⟩)] w fun e w' => e = .returned (i64 S.count) ∧ w' = w := by
  have c4 := cell_of_row w d 3 _ _ _ H.dd
  simp at c4
  go_enter Try.func28, Try.ntmps28
  go_wp2
  go_ret
  exact ⟨rfl, rfl⟩

/-- What is left, from number t on, so many. -/
def leftP (pl : List Int) (t : Int) (n : Nat) : List Int := (List.range n).map (fun k : Nat => getP pl (t + k))
def Dq.left (S : Dq) : List Int := leftP S.pl S.top (S.bottom - S.top).toNat
theorem leftP_succ (pl : List Int) (t : Int) (n : Nat) : leftP pl t (n + 1) = leftP pl t n ++ [getP pl (t + n)] := by simp [leftP, List.range_succ]
theorem E43 : Elem Try.prog 43 2 1 8 (.int .i64 0) := Elem.mk' Try.underlying43 (by kernel_rfl) rfl (by decide)

theorem DqIs.drewB (H : DqIs w base d P c hsv hb sv wv S) (hbl : Below w.heap.size w w') : DqIs w' base d P c hsv hb sv wv S := by
  have ho : Only [] w w' := ⟨hbl.os, hbl.tape, hbl.output, hbl.size, fun k hk _ => hbl.block k hk⟩
  exact ⟨(hbl.block _ H.dd.lt).trans H.dd, (hbl.block _ (Array.getElem?_eq_some_iff.1 H.pp).1).trans H.pp, own_only H.hown ho (fun _ _ h => by cases h), fun i hi => (hbl.block _ (H.hand i hi).lt).trans (H.hand i hi),
    fun i hi => own_only (H.own i hi) ho (fun _ _ h => by cases h), fun i hi => (H.work i hi).only ho (fun _ _ h => by cases h), H.nd, H.apart, Nat.le_trans H.bs hbl.size, H.bd, H.bP, H.bh⟩

set_option maxHeartbeats 1000000 in
theorem left_any (H : DqIs w base d P c hsv hb sv wv S) (h0 : 0 ≤ S.top) (hbd : S.bottom ≤ S.top + 100000) (htp : S.top ≤ 1000000) (hp : 0 < S.pl.length) (hp2 : S.pl.length ≤ 256) :
    Calls Try.prog 18 #[.pointer (some ⟨d, 0, none⟩)] w fun e w' => ∃ v, e = .returned v ∧ w'.ownsRow w.heap.size 2 1 v S.left.length (S.left.map i64) ∧ Below w.heap.size w w' := by
  have c0 := cell_of_row w d 0 _ _ _ H.dd
  simp at c0
  obtain ⟨N, hN⟩ : ∃ N, N = (S.bottom - S.top).toNat := ⟨_, rfl⟩
  have HL : Hid (S.left = leftP S.pl S.top N) := by rw [hN]; rfl
  have hN2 : N ≤ 100000 := by omega
  have HNB : Hid (S.top < S.bottom → S.bottom = S.top + N) := fun h => by omega
  have HNC : Hid (S.bottom ≤ S.top → N = 0) := fun h => by omega
  clear hN
  have HPL := hid (fun w1 (hbl : Below w.heap.size w w1) (n : Int) (hn : 0 ≤ n) => place_any d _ P c S.pl n w1 (H.drewB hbl).dd rfl hn hp hp2)
  have HD := hid (fun w1 (hbl : Below w.heap.size w w1) => (H.drewB hbl).dd)
  have HC := hid (fun w1 (hbl : Below w.heap.size w w1) (n : Int) => by
    have hs := slot_lt S.pl n hp
    have := (H.drewB hbl).pp.cell _ hs
    rw [show S.pl[slot S.pl n] = getP S.pl n by simp [getP, List.getD_eq_getElem?_getD, hs]] at this
    exact this)
  clear H
  go_enter Try.func18, Try.ntmps18
  go_wp2
  go_loopw [3, 4] (fun v i wr => ∃ k : Nat, (k ≤ N) ∧ i = i64 (S.top + k) ∧ wr.ownsRow w.heap.size 2 1 v k ((leftP S.pl S.top k).map i64) ∧ Below w.heap.size w wr) (fun _ i _ => N - (intOf i - S.top).toNat)
  case atStart => exact ⟨0, Nat.zero_le _, by simp, World.ownsRow_nil _ _ _ _, Below.refl _ _⟩
  case round =>
    obtain ⟨k, hk, rfl, hown, hbl⟩ := hrel
    have hsz := hbl.size
    have dd := HD.out _ hbl
    have c1 := cell_of_row wr d 1 _ _ _ dd
    simp at c1
    by_cases hlt : S.top + (k : Int) < S.bottom
    · have hkN : k < N := by have := HNB.out (by omega); omega
      have HPK := hid (HPL.out wr hbl (S.top + k) (by omega))
      have HW : Hid (wrap64 (S.top + k + 1) = S.top + (k + 1 : Nat)) := (wrap_small (by omega) (by omega)).trans (by omega)
      have hcc := HC.out wr hbl (S.top + k)
      have HS := hid (leftP_succ S.pl S.top k)
      change Hid (Calls Try.prog 42 _ _ fun e w' => e = .returned (.pointer (some ⟨P, slot S.pl (S.top + k), none⟩)) ∧ _) at HPK
      generalize getP S.pl (S.top + k) = gv at *
      generalize slot S.pl (S.top + k) = sl at *
      clear dd
      go_wp2_with (first
        | (go_at_call 42; refine HPK.out.mono ?_; rintro e w2 ⟨rfl, q, rfl⟩)
        | ((with_reducible show wpList _ _ _ (⟨some 30, _, _, _, _, _⟩ :: _) _ _); go_loud (refine wpList_app E43 rfl _ _ rfl w.heap.size _ _ _ rfl ((own_drewN hown _).alloc _) _ 1 1 [i64 gv] rfl rfl (by simp) (row_new _ _ _) (by simp [Value.oneCell']) (by unfold maxLen; omega) (by omega) (by simp; omega) ?_); intro v2 w3 ho3 hg3 hs3))
      go_roundw
      case rel =>
        refine ⟨k + 1, by omega, ?_, by rw [HS.out]; simpa using ho3, ((below_drewN hbl q).alloc hsz _).grown hg3 (by simp; omega) (own_ge hown)⟩
        show Value.int .i64 _ = Value.int .i64 _
        congr 1; omega
      case measure => simp [intOf]; omega
    · have hkN : k = N := by
        by_cases h : S.top < S.bottom
        · have := HNB.out h; omega
        · have := HNC.out (by omega); omega
      subst hkN
      go_wp2
      go_ret
      refine ⟨_, rfl, ?_, hbl⟩
      rw [HL.out, show (leftP S.pl S.top k).length = k by simp [leftP]]
      exact hown

theorem one2 (l : List (Bool × Int)) : ∀ u ∈ ansCells l, u.oneCell' = true := by
  intro u hu
  unfold ansCells at hu
  obtain ⟨a, _, ha⟩ := List.mem_flatMap.1 hu
  simp only [List.mem_cons, List.not_mem_nil, or_false] at ha
  rcases ha with rfl | rfl <;> rfl
theorem own_nilcapA {base : Nat} {e : TypeId} {size n m c : Nat} {p : Option Addr} {xs : List Value} (h : w.ownsRow base e size (.slice p m c) n xs) : p = none → c = 0 := by
  intro hp
  subst hp
  rcases h.2 with ⟨hv, _⟩ | ⟨g, cap, cur, hv, _⟩
  · cases hv; rfl
  · cases hv
set_option maxHeartbeats 1000000 in
theorem cloneA_any (p : Option Addr) (c : Nat) (l : List (Bool × Int)) (hm : l.length ≤ 1000000) (hp : p = none → c = 0) (hrow : Row w p (ansCells l)) :
    Calls Try.prog 38 #[.slice p l.length c] w fun e w' => ∃ v, e = .returned v ∧ w'.ownsRow w.heap.size 40 2 v l.length (ansCells l) ∧ Below w.heap.size w w' := by
  cases p with
  | none =>
    have hc := hp rfl
    subst hc
    have h0 : l = [] := by
      apply Classical.byContradiction
      intro hne
      obtain ⟨b, o, e, _⟩ := hrow (by intro e; have := congrArg List.length e; rw [ansCells_len] at this; cases l; exact hne rfl; simp at this)
      cases e
    subst h0
    have hnil := fun (w : World) => Lib.run_eql_slice_nil (P := Try.prog) w 37 40 none 0 0 0 0 Try.underlying37
    go_enter Try.func38, Try.ntmps38
    go_wp2
    go_ret
    exact ⟨_, rfl, World.ownsRow_nil _ _ _ _, Below.refl _ _⟩
  | some a =>
    have hnil := fun (w : World) (n c : Nat) => Lib.run_eql_slice_nil (P := Try.prog) w 37 40 (some a) n c 0 0 Try.underlying37
    go_enter Try.func38, Try.ntmps38
    go_wp2_with ((with_reducible show wpList _ _ _ (⟨some 7, _, _, _, _, _⟩ :: _) _ _); go_loud (refine wpList_app E37 rfl _ _ rfl w.heap.size _ 0 [] rfl (own_new w [] 40 w.heap.size 0 2 (Nat.le_refl _) rfl (by decide)) _ _ _ (ansCells l) rfl (by rw [ansCells_len]; omega) hp (hrow.alloc _) (one2 l) (by unfold maxLen; omega) (by omega) (by simp) ?_); intro v2 w2 ho2 hg2 hs2; rw [Nat.zero_add, List.nil_append] at ho2)
    have hg2 : (w.alloc (.cells #[] 40)).grownBy w2 (some w.heap.size) := hg2
    go_ret
    exact ⟨v2, rfl, ho2, ((Below.refl _ _).alloc (Nat.le_refl _) _).grown hg2 (by simp) (by rintro k e; cases e; exact Nat.le_refl _)⟩

/-- What a worker answered. -/
def Dq.answers (S : Dq) (n : Int) : List (Bool × Int) := if 0 ≤ n ∧ n < S.hs.length then (match S.hs[n.toNat]? with | some x => x.said | none => []) else []
theorem answers_nil (n : Int) : Calls Try.prog 14 #[.pointer none, .int .i64 n] w fun e w' => e = .returned (.slice none 0 0) ∧ w' = w := by
  go_enter Try.func14, Try.ntmps14
  go_wp2_with (go_at_call 37; refine (hand_nil n _).mono ?_; rintro e w2 ⟨rfl, rfl⟩)
  go_ret
  exact ⟨rfl, rfl⟩
set_option maxHeartbeats 1000000 in
theorem answers_any (H : DqIs w base d P c hsv hb sv wv S) (n : Int) (hlen : S.hs.length ≤ 64) (hsl : ∀ i (h : i < S.hs.length), S.hs[i].said.length ≤ 1000000) :
    Calls Try.prog 14 #[.pointer (some ⟨d, 0, none⟩), .int .i64 n] w fun e w' => ∃ v, e = .returned v ∧ w'.ownsRow w.heap.size 40 2 v (S.answers n).length (ansCells (S.answers n)) ∧ Below w.heap.size w w' := by
  have HA := hid (hand_any H n hlen)
  by_cases hk : 0 ≤ n ∧ n < S.hs.length
  · rw [if_pos hk] at HA
    obtain ⟨k, rfl⟩ : ∃ k : Nat, n = k := ⟨n.toNat, by omega⟩
    have hk2 : k < S.hs.length := by omega
    have HD : Hid (S.answers k = S.hs[k].said) := by simp [Hid, Dq.answers, hk2]
    rw [Int.toNat_natCast] at HA
    have c1 := cell_of_row w (hb k) 1 _ _ _ (H.hand k hk2)
    obtain ⟨sp, sc, hsv', _, _, hr, _, _⟩ := own_row (H.own k hk2)
    have hown := H.own k hk2
    simp only [List.getElem?_toArray, List.getElem?_cons_succ, List.getElem?_cons_zero] at c1
    rw [hsv'] at c1 hown
    have hcap := own_nilcapA hown
    have HCL := hid (cloneA_any sp sc S.hs[k].said (hsl k hk2) hcap hr)
    generalize S.hs[k].said = l at *
    generalize hb k = h at *
    clear hk H hsv' hown hcap hr hsl
    go_enter Try.func14, Try.ntmps14
    go_wp2_with (first
      | (go_at_call 37; refine HA.out.mono ?_; rintro e w2 ⟨rfl, rfl⟩)
      | (go_at_call 38; refine HCL.out.mono ?_; rintro e w3 ⟨v, rfl, ho, hbl⟩))
    go_ret
    exact ⟨_, rfl, by rw [HD.out]; exact ho, hbl⟩
  · rw [if_neg hk] at HA
    have HD : Hid (S.answers n = []) := if_neg hk
    clear hk
    go_enter Try.func14, Try.ntmps14
    go_wp2_with (go_at_call 37; refine HA.out.mono ?_; rintro e w2 ⟨rfl, rfl⟩)
    go_ret
    exact ⟨_, rfl, by rw [HD.out]; exact World.ownsRow_nil _ _ _ _, Below.refl _ _⟩
end Go.Proofs.Ytpgdpddmgljpmaa
