/-
  What rounds upon rounds come to, in plain lists: the last one fits, each only adds, there are no more than branches; where nothing is aligned, whatever else fits has all of them long.
-/
import Derived.Test.YtkjiiikcillcfaaRefX
import Derived.Test.YtkjiiikcillcfaaLaw
namespace Go.Proofs.Ytkjiiikcillcfaa
open Go.RowKit

/-- What is long in l is long in m. -/
def SubL (l m : List Bool) : Prop := ∀ k, l.getD k false = true → m.getD k false = true
theorem SubL.refl (l : List Bool) : SubL l l := fun _ h => h
theorem SubL.trans {a b c : List Bool} (h : SubL a b) (g : SubL b c) : SubL a c := fun k hk => g k (h k hk)
theorem sub_zeros (xs : List It) (m : List Bool) : SubL (zeros xs) m := fun k h => by
  by_cases hk : k < xs.length
  · simp [zeros, List.getD, hk] at h
  · simp [zeros, List.getD, hk] at h
theorem allP_sub {l m : List Bool} (hl : l.length = m.length) (h : SubL l m) : allP l m = true := by
  simp only [allP, hl, decide_true, Bool.true_and, List.all_eq_true]
  intro k _
  cases h1 : l.getD k false
  · rfl
  · rw [h k h1]; rfl

theorem sub_round {xs : List It} {ls : List Bool} (hf : Fair xs ls) : SubL ls (roundP xs ls) := fun k h => by
  rw [getD_round]; exact fair_keeps hf k h

theorem more_none {xs : List It} {ls : List Bool} (h : moreP xs ls = 0) (k : Nat) (hk : k < xs.length) : moreAt xs ls k = false := by
  unfold moreP moreN at h
  have h2 := List.eq_nil_of_length_eq_zero h
  rw [List.filter_eq_nil_iff] at h2
  have := h2 k (List.mem_range.2 hk)
  simpa using this
theorem more_zero {xs : List It} {ls : List Bool} (h : ∀ k, k < xs.length → moreAt xs ls k = false) : moreP xs ls = 0 := by
  unfold moreP moreN
  rw [List.length_eq_zero_iff, List.filter_eq_nil_iff]
  intro k hk
  rw [h k (List.mem_range.1 hk)]
  simp
theorem round_still {xs : List It} {ls : List Bool} (hf : Fair xs ls) (h : moreP xs ls = 0) : roundP xs ls = ls := by
  apply List.ext_getElem
  · rw [roundP_len, hf.len]
  · intro k h1 h2
    rw [roundP_len] at h1
    have e1 : (roundP xs ls).getD k false = ls.getD k false := by
      rw [getD_round]
      have hm := more_none h k h1
      have hk := fair_keeps hf k
      unfold moreAt at hm
      cases h3 : ls.getD k false
      · rw [h3] at hm; simpa using hm
      · exact hk h3
    have h1' : k < (roundP xs ls).length := by rw [roundP_len]; exact h1
    simp only [List.getD, List.getElem?_eq_getElem h1', List.getElem?_eq_getElem h2, Option.getD_some] at e1
    exact e1

/-- How many branches there are. -/
def brN (xs : List It) (k : Nat) : Nat := ((List.range k).filter (fun j => match xs[j]? with | some x => decide (x.kind = 3) | none => false)).length
theorem brN_succ (xs : List It) (k : Nat) (hk : k < xs.length) : brN xs (k + 1) = brN xs k + (if xs[k].kind = 3 then 1 else 0) := by
  simp only [brN, List.range_succ, List.filter_append, List.length_append]
  by_cases h : xs[k].kind = 3
  · rw [List.filter_cons_of_pos (by simp [hk, h]), if_pos h]; simp
  · rw [List.filter_cons_of_neg (by simp [hk, h]), if_neg h]; simp
theorem brN_le (xs : List It) (k : Nat) : brN xs k ≤ k := by
  have := List.length_filter_le (fun j => match xs[j]? with | some x => decide (x.kind = 3) | none => false) (List.range k)
  simpa [brN] using this
theorem cnt_le_br {xs : List It} {ls : List Bool} (hf : Fair xs ls) : ∀ k, k ≤ xs.length → cntN ls k ≤ brN xs k
  | 0, _ => by simp [cntN, brN]
  | k + 1, h => by
    have ih := cnt_le_br hf k (by omega)
    rw [cntN_succ, brN_succ xs k (by omega)]
    cases h1 : ls.getD k false
    · simp; omega
    · have h3 := hf.br k (by omega) h1
      simp [h3]; omega

theorem runs_br {xs : List It} : ∀ (f : Nat) (ls : List Bool), Fair xs ls → (runs xs f ls).length + cntN ls xs.length ≤ brN xs xs.length + 1
  | 0, ls, hf => by have := cnt_le_br hf xs.length (Nat.le_refl _); simp [runs]; omega
  | f + 1, ls, hf => by
    have h1 := cnt_round hf xs.length
    have h2 := cnt_le_br hf xs.length (Nat.le_refl _)
    simp only [runs, List.length_cons]
    by_cases hm : moreP xs ls = 0
    · rw [if_pos hm]; simp; omega
    · rw [if_neg hm]
      have ih := runs_br f (roundP xs ls) (fair_round xs ls)
      unfold moreP at hm
      omega
theorem relaxN_br {xs : List It} (h : checkP xs = 0) : relaxN xs ≤ brN xs xs.length := by
  have := runs_br (xs.length + 1) (zeros xs) (fair_zeros xs)
  simp only [relaxN, roundsP, if_pos h]
  omega

/-- The last of runs has no more to add, if there is fuel. -/
theorem runs_fit {xs : List It} : ∀ (f : Nat) (ls : List Bool), Fair xs ls → xs.length < cntN ls xs.length + f →
    ∃ b, (runs xs f ls).getLast? = some b ∧ Fair xs b ∧ moreP xs b = 0 ∧ SubL ls b
  | 0, ls, hf, h => by have := cntN_le ls xs.length; omega
  | f + 1, ls, hf, h => by
    by_cases hm : moreP xs ls = 0
    · rw [runs_last xs ls f hm]
      have e := round_still hf hm
      exact ⟨_, rfl, fair_round xs ls, by rw [e]; exact hm, sub_round hf⟩
    · obtain ⟨h1, h2⟩ := runs_step hf f h hm
      obtain ⟨b, hb, hfb, hmb, hs⟩ := runs_fit f _ (fair_round xs ls) h1
      rw [h2]
      refine ⟨b, ?_, hfb, hmb, (sub_round hf).trans hs⟩
      rw [List.getLast?_cons, hb]; rfl
theorem relax_fit {xs : List It} (h : checkP xs = 0) : Fair xs (relaxRes xs) ∧ moreP xs (relaxRes xs) = 0 := by
  obtain ⟨b, hb, hf, hm, _⟩ := runs_fit (xs.length + 1) (zeros xs) (fair_zeros xs) (by omega)
  have : relaxRes xs = b := by
    simp only [relaxRes, roundsP, if_pos h]
    rw [List.getLastD_eq_getLast?, hb]; rfl
  rw [this]
  exact ⟨hf, hm⟩
theorem relax_fitsP {xs : List It} (h : checkP xs = 0) : fitsP xs (relaxRes xs) = true := by
  obtain ⟨hf, hm⟩ := relax_fit h
  simp [fitsP, off_ok h hf, hm]

/-- All branches long: it fits. -/
def everyP (xs : List It) : List Bool := xs.map (fun x => decide (x.kind = 3))
theorem every_fits {xs : List It} (h : checkP xs = 0) : fitsP xs (everyP xs) = true := by
  have h0 : offErr xs (everyP xs) = 0 := by simp [offErr, h, everyP]
  have hm : moreP xs (everyP xs) = 0 := more_zero fun k hk => by
    have e : (everyP xs).getD k false = decide (xs[k].kind = 3) := by simp [everyP, List.getD, hk]
    simp only [moreAt, roundAt, List.getElem?_eq_getElem hk, e]
    cases decide (xs[k].kind = 3) <;> simp
  simp [fitsP, h0, hm]

/-- Each round only adds. -/
theorem runs_chain {xs : List It} : ∀ (f : Nat) (ls : List Bool), Fair xs ls → ∀ (k : Nat) (h : k < (runs xs f ls).length), Fair xs (runs xs f ls)[k] ∧ SubL (if k = 0 then ls else (runs xs f ls)[k - 1]'(by omega)) (runs xs f ls)[k]
  | 0, ls, _, k, h => by simp [runs] at h
  | f + 1, ls, hf, k, h => by
    by_cases hm : moreP xs ls = 0
    · simp only [runs_last xs ls f hm, List.length_singleton] at h ⊢
      obtain rfl : k = 0 := by omega
      exact ⟨fair_round xs ls, sub_round hf⟩
    · have e : runs xs (f + 1) ls = roundP xs ls :: runs xs f (roundP xs ls) := by rw [runs, if_neg hm]
      simp only [e] at h ⊢
      cases k with
      | zero => exact ⟨fair_round xs ls, sub_round hf⟩
      | succ k =>
        simp only [List.length_cons] at h
        obtain ⟨g1, g2⟩ := runs_chain f (roundP xs ls) (fair_round xs ls) k (by omega)
        refine ⟨g1, ?_⟩
        simp only [List.getElem_cons_succ, Nat.add_one_ne_zero, if_false, Nat.add_sub_cancel]
        cases k with
        | zero => simpa using g2
        | succ k => simpa using g2

/-! ### Where nothing is aligned. -/

def flatP (x : It) : Bool := !(decide (x.kind = 2) || (decide (x.kind = 3) && (decide (0 < x.lo) || decide (x.hi < 0) || decide (x.add ≠ 0))))
def flatAll (xs : List It) : Bool := xs.all flatP

/-- ys is xs with some more bytes. -/
def Over (xs ys : List It) : Prop := ys.length = xs.length ∧ ∀ (k : Nat) (h : k < xs.length) (h2 : k < ys.length), ys[k].kind = xs[k].kind ∧ (xs[k].kind = 3 → ys[k].to = xs[k].to ∧ ys[k].lo = xs[k].lo ∧ ys[k].hi = xs[k].hi ∧ ys[k].add = xs[k].add) ∧ (xs[k].kind = 1 → xs[k].size ≤ ys[k].size)
theorem Over.refl (xs : List It) : Over xs xs := ⟨rfl, fun _ _ _ => ⟨rfl, fun _ => ⟨rfl, rfl, rfl, rfl⟩, fun _ => Int.le_refl _⟩⟩

theorem size_nonneg {x : It} {n : Int} (h : plainP x n = true) (hk : x.kind = 1) : 0 ≤ x.size := by
  simp [plainP, hk, within] at h; omega

theorem off_dist {xs ys : List It} {ls bs : List Bool} (ho : Over xs ys) (hp : ∀ x ∈ xs, plainP x xs.length = true) (hf : flatAll xs = true) (hs : SubL ls bs) (j : Nat) :
    ∀ d, j + d ≤ xs.length → 0 ≤ offAt xs ls (j + d) - offAt xs ls j ∧ offAt xs ls (j + d) - offAt xs ls j ≤ offAt ys bs (j + d) - offAt ys bs j
  | 0, _ => by simp
  | d + 1, h => by
    obtain ⟨h1, h2⟩ := off_dist ho hp hf hs j d (by omega)
    have hk : j + d < xs.length := by omega
    have hk2 : j + d < ys.length := by rw [ho.1]; exact hk
    rw [show j + (d + 1) = (j + d) + 1 by omega, off_succ xs ls (j + d) hk, off_succ ys bs (j + d) hk2]
    obtain ⟨o1, o2, o3⟩ := ho.2 (j + d) hk hk2
    have hpl := hp _ (List.getElem_mem hk)
    have hfl := List.all_eq_true.1 hf _ (List.getElem_mem hk)
    have hs' := hs (j + d)
    generalize xs[j + d] = x at *
    generalize ys[j + d] = y at *
    have h22 : x.kind ≠ 2 := by intro e; simp [flatP, e] at hfl
    unfold nextAt
    by_cases hk1 : x.kind = 1
    · have h5 := size_nonneg hpl hk1
      have h6 := o3 hk1
      rw [o1, if_pos hk1, if_pos hk1]
      omega
    · rw [o1, if_neg hk1, if_neg hk1, if_neg h22, if_neg h22]
      cases h7 : ls.getD (j + d) false
      · cases h8 : bs.getD (j + d) false <;> simp <;> omega
      · rw [hs' h7]; simp; omega

theorem offs_getD (xs : List It) (ls : List Bool) (i : Nat) (h : i ≤ xs.length) : (offs xs ls).getD i 0 = offAt xs ls i := by
  simp [offs, List.getD, show i < xs.length + 1 by omega]

theorem reach_less {xs ys : List It} {ls bs : List Bool} (ho : Over xs ys) (hp : ∀ x ∈ xs, plainP x xs.length = true) (hf : flatAll xs = true) (hs : SubL ls bs) (k : Nat) (h : k < xs.length) (h2 : k < ys.length) (h3 : xs[k].kind = 3)
    (hr : reachP ys[k] k (offs ys bs) = true) : reachP xs[k] k (offs xs ls) = true := by
  obtain ⟨o1, o2, _⟩ := ho.2 k h h2
  obtain ⟨o3, o4, o5, o6⟩ := o2 h3
  have hpl := plainP_br (hp _ (List.getElem_mem h)) h3
  have hfl := List.all_eq_true.1 hf _ (List.getElem_mem h)
  have hl := ho.1
  have hd1 := off_dist ho hp hf hs k (xs[k].to.toNat - k)
  have hd2 := off_dist ho hp hf hs xs[k].to.toNat (k - xs[k].to.toNat)
  simp only [reachP, o3, o4, o5, o6, within, Bool.and_eq_true, decide_eq_true_eq] at hr ⊢
  generalize xs[k] = x at *
  have hadd : x.add = 0 ∧ x.lo ≤ 0 ∧ 0 ≤ x.hi := by simp [flatP, h3] at hfl; omega
  obtain ⟨hadd, hlo, hhi⟩ := hadd
  have ht : x.to.toNat ≤ xs.length := by omega
  rw [offs_getD ys bs _ (by omega), offs_getD ys bs _ (by omega)] at hr
  rw [offs_getD xs ls _ ht, offs_getD xs ls _ (by omega)]
  generalize x.to.toNat = t at *
  by_cases htk : k ≤ t
  · rw [show k + (t - k) = t by omega] at hd1
    have := hd1 ht
    omega
  · rw [show t + (k - t) = k by omega] at hd2
    have := hd2 (by omega)
    omega

theorem round_sub {xs ys : List It} {ls bs : List Bool} (ho : Over xs ys) (hp : ∀ x ∈ xs, plainP x xs.length = true) (hf : flatAll xs = true) (hs : SubL ls bs) (hm : moreP ys bs = 0) : SubL (roundP xs ls) bs := fun k hk => by
  rw [getD_round] at hk
  by_cases h : k < xs.length
  · have h2 : k < ys.length := by rw [ho.1]; exact h
    have hmk := more_none hm k h2
    obtain ⟨o1, _, _⟩ := ho.2 k h h2
    have hr := reach_less (ls := ls) (bs := bs) ho hp hf hs k h h2
    simp only [roundAt, List.getElem?_eq_getElem h] at hk
    simp only [moreAt, roundAt, List.getElem?_eq_getElem h2] at hmk
    have h3 : xs[k].kind = 3 := by
      by_cases h3 : xs[k].kind = 3
      · exact h3
      · simp [h3] at hk
    have h4 := hr h3
    rw [o1] at hmk
    simp only [h3, decide_true, Bool.true_and] at hk hmk
    cases h5 : bs.getD k false
    · rw [h5] at hmk
      simp only [Bool.false_or, Bool.not_false, Bool.and_true, Bool.not_eq_false'] at hmk
      rw [h4 hmk] at hk
      simp only [Bool.not_true, Bool.or_false] at hk
      rw [hs k hk] at h5
      exact absurd h5 (by simp)
    · rfl
  · simp [roundAt, h] at hk

theorem runs_sub {xs ys : List It} {bs : List Bool} (ho : Over xs ys) (hp : ∀ x ∈ xs, plainP x xs.length = true) (hf : flatAll xs = true) (hm : moreP ys bs = 0) :
    ∀ (f : Nat) (ls : List Bool), SubL ls bs → ∀ l ∈ runs xs f ls, SubL l bs
  | 0, _, _, l, hl => by simp [runs] at hl
  | f + 1, ls, hs, l, hl => by
    have h1 := round_sub ho hp hf hs hm
    simp only [runs, List.mem_cons] at hl
    rcases hl with rfl | hl
    · exact h1
    · split at hl
      · simp at hl
      · exact runs_sub ho hp hf hm f _ h1 l hl
theorem relax_least {xs ys : List It} {bs : List Bool} (h : checkP xs = 0) (ho : Over xs ys) (hf : flatAll xs = true) (hl : bs.length = xs.length) (hm : moreP ys bs = 0) : allP (relaxRes xs) bs = true := by
  obtain ⟨_, hp, _⟩ := checkP_ok h
  refine allP_sub (by rw [(relax_fit h).1.len, hl]) ?_
  obtain ⟨h1, _⟩ := rounds_pos h
  refine runs_sub ho hp hf hm (xs.length + 1) (zeros xs) (sub_zeros _ _) _ ?_
  have hr : roundsP xs = runs xs (xs.length + 1) (zeros xs) := by simp only [roundsP, if_pos h]
  rw [← hr]
  simp only [relaxRes, List.getLastD_eq_getLast?]
  rw [List.getLast?_eq_some_getLast (by intro e; rw [e] at h1; simp at h1)]
  exact List.getLast_mem _
end Go.Proofs.Ytkjiiikcillcfaa
