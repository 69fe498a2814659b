/-
  What New calls: the test of the thieves, the clone of the operations; a hand more.
-/
import Derived.Test.YtpgdpddmgljpmaaD8
namespace Go.Proofs.Ytpgdpddmgljpmaa
open Go.RowKit
variable {w w' : World} {base d P c : Nat} {hsv : Value} {hb : Nat → Nat} {sv wv : Nat → Value} {S : Dq}

theorem neg_any (n : Int) : Calls Try.prog 34 #[.int .i64 n] w fun e w' => e = .returned (.bool (decide (n < 0))) ∧ w' = w := by
  go_enter Try.func34, Try.ntmps34
  go_wp2
  go_ret
  exact ⟨rfl, rfl⟩
abbrev ints (l : List Int) : List Value := l.map (fun n => .int .i64 n)
set_option maxHeartbeats 1000000 in
theorem index_any (p : Option Addr) (cc : Nat) (l : List Int) (hl : l.length ≤ 63) (hr : Row w p (ints l)) :
    Calls Try.prog 48 #[.slice p l.length cc, .func (.func 34) #[] #[]] w fun e w' => e = .returned (.int .i64 (if l.any (fun n => decide (n < 0)) then (l.findIdx (fun n => decide (n < 0)) : Int) else -1)) ∧ w' = w := by
  obtain ⟨R, hR⟩ : ∃ R : Int, R = (if l.any (fun n => decide (n < 0)) then (l.findIdx (fun n => decide (n < 0)) : Int) else -1) := ⟨_, rfl⟩
  rw [← hR]
  have HR := hid hR
  clear hR
  go_enter Try.func48, Try.ntmps48
  go_wp2
  go_loopw [8] (fun i wr => ∃ k : Nat, k ≤ l.length ∧ i = .int .i64 k ∧ (∀ j (h : j < l.length), j < k → ¬ l[j] < 0) ∧ wr = w) (fun i _ => l.length - (intOf i).toNat)
  case atStart => exact ⟨0, Nat.zero_le _, rfl, by omega, rfl⟩
  case round =>
    obtain ⟨k, hk, rfl, hno, rfl⟩ := hrel
    have HNO := hid hno
    clear hno
    by_cases hlt : k < l.length
    · obtain ⟨b, o, rfl, _, hcell⟩ := hr.at (by simp; omega)
      have hck := hcell k (by simpa using hlt)
      simp only [List.getElem_map] at hck
      have hkI : (k : Int) < l.length := by omega
      clear hcell
      by_cases hx : l[k] < 0
      · have HF : Hid (R = k) := by
          have h1 : l.any (fun n => decide (n < 0)) = true := List.any_eq_true.2 ⟨l[k], List.getElem_mem hlt, by simpa using hx⟩
          have h2 : l.findIdx (fun n => decide (n < 0)) = k := by
            rw [List.findIdx_eq hlt]
            exact ⟨by simpa using hx, fun j hj => by simpa using HNO.out j (by omega) hj⟩
          show R = k
          rw [HR.out, if_pos h1, h2]
        have hxd : decide (l[k] < 0) = true := by simpa using hx
        generalize l[k] = x at *
        clear hx
        go_wp2_with (go_at_call 34; refine (neg_any x).mono ?_; rintro e w2 ⟨rfl, rfl⟩; simp only [hxd])
        go_ret
        exact ⟨by rw [HF.out]; rfl, rfl⟩
      · have hxd : decide (l[k] < 0) = false := by simpa using hx
        have HX := hid hx
        have HE : Hid (∀ j (h : j < l.length), j < k + 1 → ¬ l[j] < 0) := fun j h hj => by
          by_cases e : j = k
          · subst e; exact HX.out
          · exact HNO.out j h (by omega)
        clear HX
        generalize l[k] = x at *
        clear hx
        go_wp2_with (go_at_call 34; refine (neg_any x).mono ?_; rintro e w2 ⟨rfl, rfl⟩; simp only [hxd])
        go_roundw
        case rel => exact ⟨k + 1, by omega, by go_num, HE.out, trivial⟩
        case measure => simp [intOf]; omega
    · have HF : Hid (R = -1) := by
        show R = -1
        rw [HR.out, if_neg]
        intro h
        obtain ⟨x, hx, hd⟩ := List.any_eq_true.1 h
        obtain ⟨j, hj, rfl⟩ := List.mem_iff_getElem.1 hx
        exact HNO.out j hj (by omega) (by simpa using hd)
      go_wp2
      go_ret
      exact ⟨by rw [HF.out]; rfl, rfl⟩
theorem contains_any (p : Option Addr) (cc : Nat) (l : List Int) (hl : l.length ≤ 63) (hr : Row w p (ints l)) :
    Calls Try.prog 33 #[.slice p l.length cc, .func (.func 34) #[] #[]] w fun e w' => e = .returned (.bool (l.any (fun n => decide (n < 0)))) ∧ w' = w := by
  have HI := hid (index_any p cc l hl hr)
  cases h : l.any (fun n => decide (n < 0)) with
  | true =>
    simp only [h, if_true] at HI
    have h0 : (0 : Int) ≤ (l.findIdx (fun n => decide (n < 0)) : Nat) := Int.natCast_nonneg _
    generalize ((l.findIdx (fun n => decide (n < 0)) : Nat) : Int) = ix at *
    clear h
    go_enter Try.func33, Try.ntmps33
    go_wp2_with (go_at_call 48; refine HI.out.mono ?_; rintro e w2 ⟨rfl, rfl⟩)
    go_ret
    exact ⟨rfl, rfl⟩
  | false =>
    simp only [h, Bool.false_eq_true, if_false] at HI
    clear h
    go_enter Try.func33, Try.ntmps33
    go_wp2_with (go_at_call 48; refine HI.out.mono ?_; rintro e w2 ⟨rfl, rfl⟩)
    go_ret
    exact ⟨rfl, rfl⟩

theorem one2o (l : List (Int × Int)) : ∀ u ∈ opCells l, u.oneCell' = true := by
  intro u hu
  unfold opCells at hu
  obtain ⟨a, _, ha⟩ := List.mem_flatMap.1 hu
  simp only [List.mem_cons, List.not_mem_nil, or_false] at ha
  rcases ha with rfl | rfl <;> rfl
set_option maxHeartbeats 1000000 in
theorem cloneO_any (p : Option Addr) (cc : Nat) (l : List (Int × Int)) (hm : l.length ≤ 1000000) (hp : p = none → cc = 0) (hrow : Row w p (opCells l)) :
    Calls Try.prog 35 #[.slice p l.length cc] w fun e w' => ∃ v, e = .returned v ∧ w'.ownsRow w.heap.size 27 2 v l.length (opCells l) ∧ Below w.heap.size w w' := by
  cases p with
  | none =>
    have hc := hp rfl
    subst hc
    have h0 : l = [] := by
      apply Classical.byContradiction
      intro hne
      obtain ⟨b, o, e, _⟩ := hrow (by intro e; have := congrArg List.length e; rw [opCells_len] at this; cases l; exact hne rfl; simp at this)
      cases e
    subst h0
    have hnil := fun (w : World) => Lib.run_eql_slice_nil (P := Try.prog) w 25 27 none 0 0 0 0 Try.underlying25
    go_enter Try.func35, Try.ntmps35
    go_wp2
    go_ret
    exact ⟨_, rfl, World.ownsRow_nil _ _ _ _, Below.refl _ _⟩
  | some a =>
    have hnil := fun (w : World) (n c : Nat) => Lib.run_eql_slice_nil (P := Try.prog) w 25 27 (some a) n c 0 0 Try.underlying25
    go_enter Try.func35, Try.ntmps35
    go_wp2_with ((with_reducible show wpList _ _ _ (⟨some 7, _, _, _, _, _⟩ :: _) _ _); go_loud (refine wpList_app E25 rfl _ _ rfl w.heap.size _ 0 [] rfl (own_new w [] 27 w.heap.size 0 2 (Nat.le_refl _) rfl (by decide)) _ _ _ (opCells l) rfl (by rw [opCells_len]; omega) hp (hrow.alloc _) (one2o l) (by unfold maxLen; omega) (by omega) (by simp) ?_); intro v2 w2 ho2 hg2 hs2; rw [Nat.zero_add, List.nil_append] at ho2)
    have hg2 : (w.alloc (.cells #[] 27)).grownBy w2 (some w.heap.size) := hg2
    go_ret
    exact ⟨v2, rfl, ho2, ((Below.refl _ _).alloc (Nat.le_refl _) _).grown hg2 (by simp) (by rintro k e; cases e; exact Nat.le_refl _)⟩

theorem WorkAt.of_own {v : Value} {ops : List (Int × Int)} (h : w.ownsRow base 27 2 v ops.length (opCells ops)) : WorkAt w v ops := by
  obtain ⟨p, cc, rfl, _, _, hr, _, _⟩ := own_row h
  exact ⟨p, cc, rfl, hr, fun a ha _ => by
    obtain ⟨cur, hc⟩ := own_typeA h a.block (by subst ha; rfl)
    exact ⟨cur, _, hc⟩⟩

/-- A hand at its beginning. -/
def hd0 (ops : List (Int × Int)) : Hd := ⟨ops, [], 0, 0, 0, 0, false⟩
/-- A hand more. -/
theorem DqIs.addHand (H : DqIs w base d P c hsv hb sv wv S) {h : Nat} {hsv' v : Value} {ops : List (Int × Int)} (ho : Only [hsv.ownBlock] w w')
    (hrow : w'.ownsRow base 63 1 hsv' (S.hs.length + 1) ((List.range S.hs.length).map (fun i => .pointer (some ⟨hb i, 0, none⟩)) ++ [.pointer (some ⟨h, 0, none⟩)]))
    (hh : HAt w' h ⟨v, .slice none 0 0, 0, 0, 0, 0, false⟩) (hge : w.heap.size ≤ h) (hw : WorkAt w' v ops) :
    DqIs (w'.setCell ⟨d, 4, none⟩ hsv') base d P c hsv' (fun j => if j = S.hs.length then h else hb j) (fun j => if j = S.hs.length then .slice none 0 0 else sv j) (fun j => if j = S.hs.length then v else wv j)
      { S with hs := S.hs ++ [hd0 ops] } := by
  have hnd : ∀ g, hsv.ownBlock = some g → (∃ cur, w.heap[g]? = some (.cells cur 63 (0, 0))) := fun g hg => own_typeA H.hown g hg
  have kd : w'.heap[d]? = w.heap[d]? := ho.block d H.dd.lt (by
    simp only [List.mem_singleton]
    intro e
    obtain ⟨cur, hc⟩ := hnd d e.symm
    have := H.dd; unfold DAt at this; rw [hc] at this; cases this)
  have kP : w'.heap[P]? = w.heap[P]? := ho.block P (Array.getElem?_eq_some_iff.1 H.pp).1 (by
    simp only [List.mem_singleton]
    intro e
    obtain ⟨cur, hc⟩ := hnd P e.symm
    have := H.pp; unfold PAt at this; rw [hc] at this; injection this with h2; injection h2 with _ h3; cases h3)
  have kh : ∀ i, i < S.hs.length → w'.heap[hb i]? = w.heap[hb i]? := fun i hi => ho.block (hb i) (H.hand i hi).lt (by
    simp only [List.mem_singleton]
    intro e
    obtain ⟨cur, hc⟩ := hnd (hb i) e.symm
    have := H.hand i hi; unfold HAt at this; rw [hc] at this; cases this)
  have dd' : DAt w' d ⟨S.top, S.bottom, .slice (some ⟨P, 0, none⟩) S.pl.length c, S.count, hsv⟩ := kd.trans H.dd
  have hlen : ({ S with hs := S.hs ++ [hd0 ops] } : Dq).hs.length = S.hs.length + 1 := by simp
  have hdh : h ≠ d := fun e => by have := H.dd.lt; omega
  have old : ∀ i (hi : i < S.hs.length), ({ S with hs := S.hs ++ [hd0 ops] } : Dq).hs[i]'(by simp; omega) = S.hs[i] := fun i hi => by simp [List.getElem_append_left hi]
  have new : ({ S with hs := S.hs ++ [hd0 ops] } : Dq).hs[S.hs.length]'(by simp) = hd0 ops := by simp
  have hbd : ∀ i, i < S.hs.length → hb i ≠ d := fun i hi e => by
    have h1 := H.dd; have h2 := H.hand i hi; unfold DAt at h1; unfold HAt at h2; rw [e, h1] at h2; injection h2 with h2; injection h2 with _ h3; cases h3
  have hPd : P ≠ d := fun e => by
    have h1 := H.dd; have h2 := H.pp; unfold DAt at h1; unfold PAt at h2; rw [e, h1] at h2; injection h2 with h2; injection h2 with _ h3; cases h3
  have own_d : ∀ {e : TypeId} {size n : Nat} {xs : List Value} {u : Value}, w'.ownsRow base e size u n xs → e ≠ 57 → ∀ g, u.ownBlock = some g → g ≠ d := fun hu he g hg e => by
    obtain ⟨cur, hc⟩ := own_typeA hu g hg
    unfold DAt at dd'; subst e; rw [dd'] at hc; injection hc with hc; injection hc with _ h3; exact he h3.symm
  have oldown : ∀ i (hi : i < S.hs.length), w'.ownsRow base 40 2 (sv i) S.hs[i].said.length (ansCells S.hs[i].said) := fun i hi => own_only (H.own i hi) ho (fun g hg hm => by
    simp only [List.mem_singleton] at hm
    obtain ⟨cur, hc⟩ := hnd g hm.symm
    obtain ⟨cur2, hc2⟩ := own_typeA (H.own i hi) g hg
    rw [hc] at hc2; cases hc2)
  have oldwork : ∀ i (hi : i < S.hs.length), WorkAt w' (wv i) S.hs[i].ops := fun i hi => (H.work i hi).only ho (fun k hk hm cur fz hc => by
    simp only [List.mem_singleton] at hm
    obtain ⟨cur2, hc2⟩ := hnd k hm.symm
    rw [hc] at hc2; cases hc2)
  have hset : Only [some d] w' (w'.setCell ⟨d, 4, none⟩ hsv') := (Only.grown (grown_set w' ⟨d, 4, none⟩ hsv'))
  have setwork : ∀ {u : Value} {l : List (Int × Int)}, WorkAt w' u l → WorkAt (w'.setCell ⟨d, 4, none⟩ hsv') u l := fun hu => hu.only hset (fun k hk hm cur fz hc => by
    simp only [List.mem_singleton, Option.some.injEq] at hm
    unfold DAt at dd'; subst hm; rw [dd'] at hc; cases hc)
  refine ⟨dd'.set4 hsv', (heap_setCell_other _ _ _ _ hPd).trans (kP.trans H.pp), ?_, ?_, ?_, ?_, ?_, ?_, ?_, H.bd, H.bP, ?_⟩
  · rw [hlen]
    have e : (List.range (S.hs.length + 1)).map (fun i => Value.pointer (some ⟨(fun j => if j = S.hs.length then h else hb j) i, 0, none⟩)) = (List.range S.hs.length).map (fun i => .pointer (some ⟨hb i, 0, none⟩)) ++ [.pointer (some ⟨h, 0, none⟩)] := by
      rw [List.range_succ, List.map_append]
      congr 1
      · apply List.map_congr_left
        intro i hi
        have := List.mem_range.1 hi
        simp [show i ≠ S.hs.length by omega]
      · simp
    rw [e]
    exact own_setO hrow _ _ (own_d hrow (by decide))
  · intro i hi
    rw [hlen] at hi
    by_cases hn : i = S.hs.length
    · subst hn
      rw [new]
      simp only [if_true]
      exact (heap_setCell_other _ _ _ _ hdh).trans hh
    · rw [old i (by omega)]
      simp only [if_neg hn]
      exact (heap_setCell_other _ _ _ _ (hbd i (by omega))).trans ((kh i (by omega)).trans (H.hand i (by omega)))
  · intro i hi
    rw [hlen] at hi
    by_cases hn : i = S.hs.length
    · subst hn
      rw [new]
      simp only [if_true]
      exact World.ownsRow_nil _ _ _ _
    · rw [old i (by omega)]
      simp only [if_neg hn]
      exact own_setO (oldown i (by omega)) _ _ (own_d (oldown i (by omega)) (by decide))
  · intro i hi
    rw [hlen] at hi
    by_cases hn : i = S.hs.length
    · subst hn
      rw [new]
      simp only [if_true]
      exact setwork hw
    · rw [old i (by omega)]
      simp only [if_neg hn]
      exact setwork (oldwork i (by omega))
  · intro i j hi hj
    rw [hlen] at hi hj
    have hlt : ∀ k, k < S.hs.length → hb k < w.heap.size := fun k hk => (H.hand k hk).lt
    by_cases h1 : i = S.hs.length
    · by_cases h2 : j = S.hs.length
      · intro _; rw [h1, h2]
      · simp only [h1, if_true, if_neg h2]; intro e; have := hlt j (by omega); omega
    · by_cases h2 : j = S.hs.length
      · simp only [h2, if_true, if_neg h1]; intro e; have := hlt i (by omega); omega
      · simp only [if_neg h1, if_neg h2]; exact H.nd i j (by omega) (by omega)
  · intro i j hi hj hne
    rw [hlen] at hi hj
    by_cases h1 : i = S.hs.length
    · simp only [h1, if_true]; exact Apart.nil _
    · by_cases h2 : j = S.hs.length
      · simp only [h2, if_true, if_neg h1]; exact (Apart.nil _).symm
      · simp only [if_neg h1, if_neg h2]; exact H.apart i j (by omega) (by omega) hne
  · exact Nat.le_trans H.bs (Nat.le_trans ho.size (grown_set w' ⟨d, 4, none⟩ hsv').size)
  · intro i hi
    rw [hlen] at hi
    by_cases hn : i = S.hs.length
    · simp only [hn, if_true]; have := H.bs; omega
    · simp only [if_neg hn]; exact H.bh i (by omega)
end Go.Proofs.Ytpgdpddmgljpmaa
