/-
  A history has a legal order just if each name has a row.
  The document's define: there is one that fits just if the name has a row.
  There is a legal order: name by name, and where a lookup tells what nobody put.
  Name by name: there is an order for all calls just if there is one for those of each name.
  Check: the calls of each worker, sorted, one behind the other, just if any two of one worker are.
  Calls that came one by one: they may be, and their order is legal.
  The table of names in plain words: workers, their calls in hand, one step.
  Owned rows whose elements are stored into; owned rows that a call leaves as they lay.
  Append and make at the operation, within a fence.
-/
import Derived.Test.YtabkmdhkfbcldaaJH0
import Derived.OwnWalkIn
import Derived.Laws.AppendOwnNone
namespace Go.Proofs.Ytabkmdhkfbcldaa
variable {l : List Cl} {k : ByteArray} {sb sa r o : List Nat} {f : ByteArray → List Nat} {keys : List ByteArray}

def isK (l : List Cl) (k : ByteArray) (i : Nat) : Bool := decide ((cAt l i).key = k)
theorem ofKey_map (o : List Nat) : ofKey k (o.map (cAt l)) = (o.filter (isK l k)).map (cAt l) := by
  unfold ofKey
  rw [List.filter_map]
  rfl
theorem filter_flat : ∀ (keys : List ByteArray), keys.Nodup → (∀ j ∈ keys, ∀ i ∈ f j, (cAt l i).key = j) → (k ∈ keys → (keys.map f).flatten.filter (isK l k) = f k) ∧ (k ∉ keys → (keys.map f).flatten.filter (isK l k) = [])
  | [], _, _ => ⟨fun h => (by cases h), fun _ => rfl⟩
  | j :: keys, hn, hf => by
    have ih := filter_flat keys (List.nodup_cons.1 hn).2 (fun i hi => hf i (List.mem_cons_of_mem _ hi))
    simp only [List.map_cons, List.flatten_cons, List.filter_append]
    by_cases h : j = k
    · subst h
      have e1 : (f j).filter (isK l j) = f j := List.filter_eq_self.2 (fun i hi => by unfold isK; exact decide_eq_true (hf j (List.mem_cons_self ..) i hi))
      have e2 : j ∉ keys := (List.nodup_cons.1 hn).1
      rw [ih.2 e2, e1, List.append_nil]
      exact ⟨fun _ => rfl, fun h => absurd (List.mem_cons_self ..) h⟩
    · have e1 : (f j).filter (isK l k) = [] := List.filter_eq_nil_iff.2 (fun i hi => by
        have := hf j (List.mem_cons_self ..) i hi
        unfold isK
        simp [this, h])
      rw [e1, List.nil_append]
      have : k ∈ j :: keys ↔ k ∈ keys := by simp [Ne.symm h]
      exact ⟨fun hk => ih.1 (this.1 hk), fun hk => ih.2 (fun h => hk (this.2 h))⟩
/-- All rows, merged: a legal order. -/
theorem rows_legal (ho : ∀ i, i < l.length → OneC (cAt l i)) (hm : ∀ i, i < l.length → (cAt l i).to ≤ maxI) (hn : keys.Nodup) (hk : ∀ i, i < l.length → (cAt l i).key ∈ keys) (hf : ∀ k ∈ keys, RowOk l k (f k)) (n : Nat) (hlen : (keys.map f).flatten.length ≤ n) : Legal l (mergeN l n (keys.map f)) := by
  have hmem : ∀ i ∈ (keys.map f).flatten, i < l.length ∧ ∃ k ∈ keys, i ∈ f k ∧ (cAt l i).key = k := fun i hi => by
    obtain ⟨r, hr, hir⟩ := List.mem_flatten.1 hi
    obtain ⟨k, hkk, rfl⟩ := List.mem_map.1 hr
    have := (hf k hkk).lt i hir
    exact ⟨this.1, k, hkk, hir, this.2⟩
  obtain ⟨m1, m2, m3⟩ := merge_ok l n (keys.map f) hlen (fun r hr => by
    obtain ⟨k, hkk, rfl⟩ := List.mem_map.1 hr
    exact (hf k hkk).g) (fun i hi => ho i (hmem i hi).1) (fun i hi => hm i (hmem i hi).1)
  generalize mergeN l n (keys.map f) = o at m1 m2 m3
  have hkeys : ∀ j ∈ keys, ∀ i ∈ f j, (cAt l i).key = j := fun j hj i hi => ((hf j hj).lt i hi).2
  have hnf : (keys.map f).flatten.Nodup := by
    refine List.pairwise_flatten.2 ⟨fun r hr => ?_, ?_⟩
    · obtain ⟨k, hkk, rfl⟩ := List.mem_map.1 hr
      exact (hf k hkk).nd
    · rw [List.pairwise_map]
      refine List.Pairwise.imp_of_mem (fun {a b} ha hb hab x hx y hy e => ?_) hn
      subst e
      exact hab ((hkeys a ha x hx).symm.trans (hkeys b hb x hy))
  refine ⟨m1.nodup_iff.2 hnf, fun i hi => (hmem i (m1.mem_iff.1 hi)).1, fun i hi he => m1.mem_iff.2 (List.mem_flatten.2 ⟨f (cAt l i).key, List.mem_map.2 ⟨_, hk i hi, rfl⟩, (hf _ (hk i hi)).all i hi rfl he⟩), m2, (steps_keys _ _).2 fun k => ?_⟩
  rw [ofKey_map]
  by_cases hkk : k ∈ keys
  · have e1 : (o.filter (isK l k)).Perm (f k) := by
      have := m1.filter (isK l k)
      rw [(filter_flat keys hn hkeys).1 hkk] at this
      exact this
    have e2 : (f k).Sublist (o.filter (isK l k)) := by
      have h1 := (m3 (f k) (List.mem_map.2 ⟨k, hkk, rfl⟩)).filter (isK l k)
      rwa [List.filter_eq_self.2 (fun i hi => by unfold isK; exact decide_eq_true (hkeys k hkk i hi))] at h1
    rw [← e2.eq_of_length e1.length_eq.symm]
    exact (hf k hkk).st
  · have e1 : o.filter (isK l k) = [] := by
      have := m1.filter (isK l k)
      rw [(filter_flat keys hn hkeys).2 hkk] at this
      exact this.eq_nil
    rw [e1]; rfl

/-- What calls without a value are. -/
theorem run_nodef : ∀ (b o : List Cl), (∀ c ∈ b, c.kind ≠ 1) → runK none (b ++ o) = true → (∀ c ∈ b, OneC c → c.kind = 2 ∧ (c.to ≠ -1 → c.err = 4)) ∧ runK none o = true
  | [], o, _, h => ⟨fun c hc => (by cases hc), h⟩
  | c :: b, o, hk, h => by
    have h : (stepOk c none && runK (applyC c none).2.2.1 (b ++ o)) = true := h
    rw [Bool.and_eq_true] at h
    have hk1 := hk c (List.mem_cons_self ..)
    by_cases h2 : c.kind = 2
    · have e : applyC c none = (0, 4, none, true) := by simp [applyC, h2]
      rw [e] at h
      have hs := h.1
      unfold stepOk at hs
      rw [e] at hs
      obtain ⟨i1, i2⟩ := run_nodef b o (fun d hd => hk d (List.mem_cons_of_mem _ hd)) h.2
      refine ⟨fun d hd hone => ?_, i2⟩
      rcases List.mem_cons.1 hd with e3 | hd
      · subst e3
        refine ⟨h2, fun he => ?_⟩
        simp [he] at hs
        omega
      · exact i1 d hd hone
    · have e : applyC c none = (0, 0, none, false) := by simp [applyC, h2, hk1]
      have hs := h.1
      unfold stepOk at hs
      rw [e] at hs
      simp at hs
theorem run_def {v : Int} : ∀ (a : List Cl), runK (some v) a = true → ∀ c ∈ a, c.to ≠ -1 → (c.kind = 1 → c.err = 5) ∧ (c.kind ≠ 1 → c.err = 0 ∧ c.ans = v)
  | c :: a, h, d, hd, he => by
    have h : (stepOk c (some v) && runK (applyC c (some v)).2.2.1 a) = true := h
    rw [Bool.and_eq_true] at h
    by_cases hk : c.kind = 1
    · have e : applyC c (some v) = (0, 5, some v, true) := by simp [applyC, hk]
      rw [e] at h
      rcases List.mem_cons.1 hd with e3 | hd
      · subst e3
        have hs := h.1
        unfold stepOk at hs
        rw [e] at hs
        simp [he] at hs
        exact ⟨fun _ => by omega, fun h => absurd hk h⟩
      · exact run_def a h.2 d hd he
    · have e : applyC c (some v) = (v, 0, some v, true) := by simp [applyC, hk]
      rw [e] at h
      rcases List.mem_cons.1 hd with e3 | hd
      · subst e3
        have hs := h.1
        unfold stepOk at hs
        rw [e] at hs
        simp [he] at hs
        exact ⟨fun h => absurd h hk, fun _ => by omega⟩
      · exact run_def a h.2 d hd he
theorem nodup_one {x : Nat} : ∀ {q : List Nat}, q.Nodup → (∀ i ∈ q, i = x) → x ∈ q → q = [x]
  | [], _, _, h => by cases h
  | [a], _, h, _ => by rw [h a (List.mem_singleton_self a)]
  | a :: b :: q, hn, h, _ => by
    have h1 := h a (List.mem_cons_self ..)
    have h2 := h b (by simp)
    have := (List.nodup_cons.1 hn).1
    rw [h1, h2] at this
    simp at this
/-- Where there is a legal order, each name has a row. -/
theorem legal_row (hl : Legal l o) (ho : ∀ i, i < l.length → OneC (cAt l i)) (H : Parts l k sb sa) : ∃ r, RowIs l k sb sa r := by
  have hst := (steps_keys _ _).1 hl.st k
  rw [ofKey_map] at hst
  obtain ⟨q, hq⟩ : ∃ q, q = o.filter (isK l k) := ⟨_, rfl⟩
  have hqm : ∀ i, i ∈ q ↔ i ∈ o ∧ (cAt l i).key = k := fun i => by rw [hq]; simp [isK]
  have hrt : RT l q := by rw [hq]; exact hl.rt.filter _
  have hin : ∀ i, i < l.length → (cAt l i).key = k → (cAt l i).to ≠ -1 → i ∈ q := fun i h1 h2 h3 => (hqm i).2 ⟨hl.all i h1 h3, h2⟩
  have hone : ∀ i ∈ q, OneC (cAt l i) := fun i hi => ho i (hl.lt i ((hqm i).1 hi).1)
  rw [← hq] at hst
  clear hq
  have hsp : q = q.takeWhile (fun i => decide ((cAt l i).kind ≠ 1)) ++ q.dropWhile (fun i => decide ((cAt l i).kind ≠ 1)) := (List.takeWhile_append_dropWhile).symm
  obtain ⟨qb, hqb⟩ : ∃ qb, qb = q.takeWhile (fun i => decide ((cAt l i).kind ≠ 1)) := ⟨_, rfl⟩
  have hbk : ∀ i ∈ qb, (cAt l i).kind ≠ 1 := fun i hi => by
    rw [hqb] at hi
    have := List.all_eq_true.1 (List.all_takeWhile (p := fun i => decide ((cAt l i).kind ≠ 1)) (l := q)) i hi
    simpa using this
  have hdw : ∀ p qa, q.dropWhile (fun i => decide ((cAt l i).kind ≠ 1)) = p :: qa → (cAt l p).kind = 1 := fun p qa e => by
    have := List.head?_dropWhile_not (fun i => decide ((cAt l i).kind ≠ 1)) q
    rw [e] at this
    simpa using this
  rw [← hqb] at hsp
  cases hd : q.dropWhile (fun i => decide ((cAt l i).kind ≠ 1)) with
  | nil =>
    rw [hd, List.append_nil] at hsp
    have h1 := run_nodef (q.map (cAt l)) [] (fun c hc => by
      obtain ⟨i, hi, rfl⟩ := List.mem_map.1 hc
      rw [hsp] at hi
      exact hbk i hi) (by rw [List.append_nil]; exact hst)
    refine ⟨sb, .none ?_ ?_⟩
    · refine List.eq_nil_iff_forall_not_mem.2 fun i hi => ?_
      obtain ⟨g1, g2⟩ := mem_idx.1 hi
      unfold isPut okDef at g2
      simp only [Bool.and_eq_true, decide_eq_true_eq] at g2
      have := hin i g1 g2.1.1 g2.1.2
      rw [hsp] at this
      exact hbk i this g2.2.1
    · refine List.eq_nil_iff_forall_not_mem.2 fun i hi => ?_
      obtain ⟨g1, g2⟩ := mem_idx.1 hi
      have g3 := (aft_iff (ho i g1)).1 g2
      have hiq := hin i g1 g3.1 g3.2.1
      have h2 := h1.1 _ (List.mem_map.2 ⟨i, hiq, rfl⟩) (ho i g1)
      have := h2.2 g3.2.1
      omega
  | cons p qa =>
    have hpk := hdw p qa hd
    rw [hd] at hsp
    have hpq : p ∈ q := by rw [hsp]; simp
    have hpo := hone p hpq
    have hpkey := ((hqm p).1 hpq).2
    have hpl := hl.lt p ((hqm p).1 hpq).1
    rw [hsp, List.map_append, List.map_cons] at hst
    obtain ⟨h1, h2⟩ := run_nodef _ _ (fun c hc => by
      obtain ⟨i, hi, rfl⟩ := List.mem_map.1 hc
      exact hbk i hi) hst
    have h2 : (stepOk (cAt l p) none && runK (applyC (cAt l p) none).2.2.1 (qa.map (cAt l))) = true := h2
    rw [Bool.and_eq_true] at h2
    have e : applyC (cAt l p) none = (0, 0, some (cAt l p).value, true) := by simp [applyC, hpk]
    rw [e] at h2
    have hs := h2.1
    unfold stepOk at hs
    rw [e] at hs
    have h3 := run_def _ h2.2
    have hrt2 := hrt
    rw [hsp] at hrt2
    obtain ⟨_, hr2, hr3⟩ := List.pairwise_append.1 hrt2
    obtain ⟨hr4, _⟩ := List.pairwise_cons.1 hr2
    have hcase : ∀ i ∈ q, i ∈ qb ∨ i = p ∨ i ∈ qa := fun i hi => by rw [hsp] at hi; simpa using hi
    have hperr : (cAt l p).err = 0 := by
      by_cases ht : (cAt l p).to = -1
      · exact (hpo.o ht).2
      · simp [ht] at hs; omega
    have hput : ∀ i ∈ idxOf l (isPut k), i = p := fun i hi => by
      obtain ⟨g1, g2⟩ := mem_idx.1 hi
      unfold isPut okDef at g2
      simp only [Bool.and_eq_true, decide_eq_true_eq] at g2
      rcases hcase i (hin i g1 g2.1.1 g2.1.2) with h | h | h
      · exact absurd g2.2.1 (hbk i h)
      · exact h
      · have := (h3 _ (List.mem_map.2 ⟨i, h, rfl⟩) g2.1.2).1 g2.2.1; omega
    have hbef : ∀ i ∈ sb, i ∈ qb := fun i hi => by
      obtain ⟨g1, g2, g3⟩ := H.bef ho i hi
      have g4 := (bef_iff g2).1 g3
      rcases hcase i (hin i g1 g4.1 g4.2.1) with h | h | h
      · exact h
      · subst h; omega
      · have := (h3 _ (List.mem_map.2 ⟨i, h, rfl⟩) g4.2.1).2 (by omega); omega
    have haft : ∀ i ∈ sa, i ∈ qa := fun i hi => by
      obtain ⟨g1, g2, g3⟩ := H.aft ho i hi
      have g4 := (aft_iff g2).1 g3
      rcases hcase i (hin i g1 g4.1 g4.2.1) with h | h | h
      · have h5 := h1 _ (List.mem_map.2 ⟨i, h, rfl⟩) g2
        have := h5.2 g4.2.1
        omega
      · subst h; omega
      · exact h
    have hfit : FitsC (sb.map (cAt l)) (sa.map (cAt l)) (cAt l p) := by
      refine ⟨fun c hc => ?_, fun c hc => ?_⟩
      · obtain ⟨i, hi, rfl⟩ := List.mem_map.1 hc
        refine ⟨hr3 i (hbef i hi) p (by simp), fun d hd => ?_⟩
        obtain ⟨j, hj, rfl⟩ := List.mem_map.1 hd
        exact hr3 i (hbef i hi) j (by simp [haft j hj])
      · obtain ⟨j, hj, rfl⟩ := List.mem_map.1 hc
        obtain ⟨g1, g2, g3⟩ := H.aft ho j hj
        have g4 := (aft_iff g2).1 g3
        refine ⟨hr4 j (haft j hj), ?_⟩
        by_cases hk1 : (cAt l j).kind = 1
        · exact .inl hk1
        · exact .inr ((h3 _ (List.mem_map.2 ⟨j, haft j hj, rfl⟩) g4.2.1).2 hk1).2
    by_cases ht : (cAt l p).to = -1
    · have hp0 : idxOf l (isPut k) = [] := by
        refine List.eq_nil_iff_forall_not_mem.2 fun i hi => ?_
        have e := hput i hi
        obtain ⟨g1, g2⟩ := mem_idx.1 hi
        unfold isPut okDef at g2
        simp only [Bool.and_eq_true, decide_eq_true_eq] at g2
        rw [e] at g2
        exact g2.1.2 ht
      by_cases ha0 : idxOf l (isAft k) = []
      · exact ⟨sb, .none hp0 ha0⟩
      · exact ⟨_, .may p hp0 ha0 (mem_idx.2 ⟨hpl, by unfold isMay; simp [hpkey, ht, hpk]⟩) hfit⟩
    · have hpin : p ∈ idxOf l (isPut k) := mem_idx.2 ⟨hpl, by unfold isPut okDef; simp [hpkey, ht, hpk, hperr]⟩
      exact ⟨_, .sure p (nodup_one (idx_nodup _ _) hput hpin) hfit⟩
end Go.Proofs.Ytabkmdhkfbcldaa
namespace Go.Proofs.Ytabkmdhkfbcldaa
variable {l : List Cl} {k : ByteArray} {sb sa r o : List Nat}

/-- The document's loop: the last beginning that must be ahead of the put, the first end that must be behind it; none: it cannot be. -/
def dLoop (l : List Cl) (k : ByteArray) (d v : Int) : List Nat → Int → Int → Option (Int × Int)
  | [], low, high => some (low, high)
  | i :: r, low, high =>
    if (i : Int) = d ∨ (cAt l i).key ≠ k ∨ (cAt l i).to < 0 then dLoop l k d v r low high
    else if (cAt l i).kind = 2 ∧ (cAt l i).err = 4 then dLoop l k d v r (max low (cAt l i).fr) high
    else if d < 0 ∨ ((cAt l i).kind = 1 ∧ (cAt l i).err = 0) ∨ ((cAt l i).kind ≠ 1 ∧ (cAt l i).ans ≠ v) then none
    else if high < 0 ∨ (cAt l i).to < high then dLoop l k d v r low (cAt l i).to
    else dLoop l k d v r low high
def dFits (l : List Cl) (k : ByteArray) (d : Int) : Bool :=
  match dLoop l k d (if 0 ≤ d then (cAt l d.toNat).value else 0) (List.range l.length) (if 0 ≤ d then (cAt l d.toNat).fr else -1) (if 0 ≤ d then (cAt l d.toNat).to else -1) with
  | none => false
  | some (low, high) => decide (d < 0) || decide (high < 0) || decide (low < high)
/-- A call of the name that ended, another one than d. -/
def isIn (l : List Cl) (k : ByteArray) (d : Int) (i : Nat) : Prop := (i : Int) ≠ d ∧ (cAt l i).key = k ∧ 0 ≤ (cAt l i).to
def isAbs (c : Cl) : Prop := c.kind = 2 ∧ c.err = 4
def bad (d v : Int) (c : Cl) : Prop := d < 0 ∨ (c.kind = 1 ∧ c.err = 0) ∨ (c.kind ≠ 1 ∧ c.ans ≠ v)
/-- What the loop comes to. -/
structure DEnd (l : List Cl) (k : ByteArray) (d v : Int) (q : List Nat) (low high low' high' : Int) : Prop where
  ok : ∀ i ∈ q, isIn l k d i → isAbs (cAt l i) ∨ ¬ bad d v (cAt l i)
  lo : low ≤ low' ∧ ∀ i ∈ q, isIn l k d i → isAbs (cAt l i) → (cAt l i).fr ≤ low'
  lo2 : low' = low ∨ ∃ i ∈ q, isIn l k d i ∧ isAbs (cAt l i) ∧ low' = (cAt l i).fr
  hi : (high < 0 ∨ (0 ≤ high' ∧ high' ≤ high)) ∧ ∀ i ∈ q, isIn l k d i → ¬ isAbs (cAt l i) → 0 ≤ high' ∧ high' ≤ (cAt l i).to
  hi2 : high' = high ∨ ∃ i ∈ q, isIn l k d i ∧ ¬ isAbs (cAt l i) ∧ high' = (cAt l i).to
theorem dloop_some {d v : Int} : ∀ (q : List Nat) (low high low' high' : Int), dLoop l k d v q low high = some (low', high') → DEnd l k d v q low high low' high'
  | [], low, high, low', high', h => by
    have h : some (low, high) = some (low', high') := h
    injection h with h
    injection h with h1 h2
    subst h1 h2
    refine ⟨fun i hi => (by cases hi), ⟨Int.le_refl _, fun i hi => (by cases hi)⟩, .inl rfl, ⟨?_, fun i hi => (by cases hi)⟩, .inl rfl⟩
    omega
  | i :: q, low, high, low', high', h => by
    unfold dLoop at h
    by_cases h1 : (i : Int) = d ∨ (cAt l i).key ≠ k ∨ (cAt l i).to < 0
    · rw [if_pos h1] at h
      have ih := dloop_some q low high low' high' h
      have hn : ¬ isIn l k d i := fun ⟨a, b, c⟩ => by
        rcases h1 with h1 | h1 | h1
        · exact a h1
        · exact h1 b
        · omega
      refine ⟨fun j hj hin => ?_, ⟨ih.lo.1, fun j hj hin => ?_⟩, ih.lo2.imp id (fun ⟨j, hj, x⟩ => ⟨j, List.mem_cons_of_mem _ hj, x⟩), ⟨ih.hi.1, fun j hj hin => ?_⟩, ih.hi2.imp id (fun ⟨j, hj, x⟩ => ⟨j, List.mem_cons_of_mem _ hj, x⟩)⟩
      all_goals
        rcases List.mem_cons.1 hj with e | hj
        · rw [e] at hin; exact absurd hin hn
        · first | exact ih.ok j hj hin | exact ih.lo.2 j hj hin | exact ih.hi.2 j hj hin
    · rw [if_neg h1] at h
      have hin0 : isIn l k d i := ⟨fun e => h1 (.inl e), Classical.byContradiction fun e => h1 (.inr (.inl e)), by omega⟩
      by_cases h2 : (cAt l i).kind = 2 ∧ (cAt l i).err = 4
      · rw [if_pos h2] at h
        have ih := dloop_some q (max low (cAt l i).fr) high low' high' h
        have hlo := ih.lo.1
        refine ⟨fun j hj hin => ?_, ⟨by omega, fun j hj hin ha => ?_⟩, ?_, ⟨ih.hi.1, fun j hj hin hna => ?_⟩, ih.hi2.imp id (fun ⟨j, hj, x⟩ => ⟨j, List.mem_cons_of_mem _ hj, x⟩)⟩
        · rcases List.mem_cons.1 hj with e | hj
          · rw [e]; exact .inl h2
          · exact ih.ok j hj hin
        · rcases List.mem_cons.1 hj with e | hj
          · rw [e]; omega
          · exact ih.lo.2 j hj hin ha
        · rcases ih.lo2 with e | ⟨j, hj, x⟩
          · by_cases hm : low ≤ (cAt l i).fr
            · exact .inr ⟨i, List.mem_cons_self .., hin0, h2, by omega⟩
            · exact .inl (by omega)
          · exact .inr ⟨j, List.mem_cons_of_mem _ hj, x⟩
        · rcases List.mem_cons.1 hj with e | hj
          · rw [e] at hna; exact absurd h2 hna
          · exact ih.hi.2 j hj hin hna
      · rw [if_neg h2] at h
        by_cases h3 : bad d v (cAt l i)
        · have : (if d < 0 ∨ ((cAt l i).kind = 1 ∧ (cAt l i).err = 0) ∨ ((cAt l i).kind ≠ 1 ∧ (cAt l i).ans ≠ v) then none else if high < 0 ∨ (cAt l i).to < high then dLoop l k d v q low (cAt l i).to else dLoop l k d v q low high) = none := if_pos h3
          rw [this] at h; cases h
        · have e3 : (if d < 0 ∨ ((cAt l i).kind = 1 ∧ (cAt l i).err = 0) ∨ ((cAt l i).kind ≠ 1 ∧ (cAt l i).ans ≠ v) then none else if high < 0 ∨ (cAt l i).to < high then dLoop l k d v q low (cAt l i).to else dLoop l k d v q low high) = (if high < 0 ∨ (cAt l i).to < high then dLoop l k d v q low (cAt l i).to else dLoop l k d v q low high) := if_neg h3
          rw [e3] at h
          have hto := hin0.2.2
          by_cases h4 : high < 0 ∨ (cAt l i).to < high
          · rw [if_pos h4] at h
            have ih := dloop_some q low (cAt l i).to low' high' h
            have hhi := ih.hi.1
            refine ⟨fun j hj hin => ?_, ⟨ih.lo.1, fun j hj hin ha => ?_⟩, ih.lo2.imp id (fun ⟨j, hj, x⟩ => ⟨j, List.mem_cons_of_mem _ hj, x⟩), ⟨by omega, fun j hj hin hna => ?_⟩, ?_⟩
            · rcases List.mem_cons.1 hj with e | hj
              · rw [e]; exact .inr h3
              · exact ih.ok j hj hin
            · rcases List.mem_cons.1 hj with e | hj
              · rw [e] at ha; exact absurd ha h2
              · exact ih.lo.2 j hj hin ha
            · rcases List.mem_cons.1 hj with e | hj
              · rw [e]; omega
              · exact ih.hi.2 j hj hin hna
            · rcases ih.hi2 with e | ⟨j, hj, x⟩
              · exact .inr ⟨i, List.mem_cons_self .., hin0, h2, e⟩
              · exact .inr ⟨j, List.mem_cons_of_mem _ hj, x⟩
          · rw [if_neg h4] at h
            have ih := dloop_some q low high low' high' h
            have hhi := ih.hi.1
            refine ⟨fun j hj hin => ?_, ⟨ih.lo.1, fun j hj hin ha => ?_⟩, ih.lo2.imp id (fun ⟨j, hj, x⟩ => ⟨j, List.mem_cons_of_mem _ hj, x⟩), ⟨ih.hi.1, fun j hj hin hna => ?_⟩, ih.hi2.imp id (fun ⟨j, hj, x⟩ => ⟨j, List.mem_cons_of_mem _ hj, x⟩)⟩
            · rcases List.mem_cons.1 hj with e | hj
              · rw [e]; exact .inr h3
              · exact ih.ok j hj hin
            · rcases List.mem_cons.1 hj with e | hj
              · rw [e] at ha; exact absurd ha h2
              · exact ih.lo.2 j hj hin ha
            · rcases List.mem_cons.1 hj with e | hj
              · rw [e]; omega
              · exact ih.hi.2 j hj hin hna
/-- It comes to an end where nothing is bad. -/
theorem dloop_ok {d v : Int} : ∀ (q : List Nat) (low high : Int), (∀ i ∈ q, isIn l k d i → isAbs (cAt l i) ∨ ¬ bad d v (cAt l i)) → ∃ x, dLoop l k d v q low high = some x
  | [], low, high, _ => ⟨_, rfl⟩
  | i :: q, low, high, h => by
    have h' : ∀ j ∈ q, isIn l k d j → isAbs (cAt l j) ∨ ¬ bad d v (cAt l j) := fun j hj => h j (List.mem_cons_of_mem _ hj)
    unfold dLoop
    by_cases h1 : (i : Int) = d ∨ (cAt l i).key ≠ k ∨ (cAt l i).to < 0
    · rw [if_pos h1]; exact dloop_ok q _ _ h'
    · rw [if_neg h1]
      have hin0 : isIn l k d i := ⟨fun e => h1 (.inl e), Classical.byContradiction fun e => h1 (.inr (.inl e)), by omega⟩
      by_cases h2 : (cAt l i).kind = 2 ∧ (cAt l i).err = 4
      · rw [if_pos h2]; exact dloop_ok q _ _ h'
      · rw [if_neg h2]
        have h3 : ¬ bad d v (cAt l i) := (h i (List.mem_cons_self ..) hin0).resolve_left h2
        rw [if_neg (show ¬ (d < 0 ∨ ((cAt l i).kind = 1 ∧ (cAt l i).err = 0) ∨ ((cAt l i).kind ≠ 1 ∧ (cAt l i).ans ≠ v)) from h3)]
        split
        · exact dloop_ok q _ _ h'
        · exact dloop_ok q _ _ h'
theorem ended_iff {c : Cl} (h : OneC c) : c.to ≠ -1 ↔ 0 ≤ c.to := by
  have h1 := h.t
  have h2 := h.f
  constructor
  · intro h3; omega
  · intro h3; omega
/-- The document's 'nobody put one', and 'd put it'. -/
def dCand (l : List Cl) (k : ByteArray) (d : Nat) : Prop := d < l.length ∧ (cAt l d).key = k ∧ (cAt l d).kind = 1 ∧ (cAt l d).err = 0
theorem define_row (ho : ∀ i, i < l.length → OneC (cAt l i)) (H : Parts l k sb sa) : (dFits l k (-1) = true ∨ ∃ d : Nat, dCand l k d ∧ dFits l k d = true) ↔ ∃ r, RowIs l k sb sa r := by
  have hB := H.bef ho
  have hA := H.aft ho
  have none_of : (∀ i, i < l.length → (cAt l i).key = k → (cAt l i).to ≠ -1 → isAbs (cAt l i)) → RowIs l k sb sa sb := fun h => by
    refine .none (List.eq_nil_iff_forall_not_mem.2 fun i hi => ?_) (List.eq_nil_iff_forall_not_mem.2 fun i hi => ?_)
    · obtain ⟨g1, g2⟩ := mem_idx.1 hi
      unfold isPut okDef at g2
      simp only [Bool.and_eq_true, decide_eq_true_eq] at g2
      have := h i g1 g2.1.1 g2.1.2
      unfold isAbs at this
      omega
    · obtain ⟨g1, g2⟩ := mem_idx.1 hi
      have g3 := (aft_iff (ho i g1)).1 g2
      have := h i g1 g3.1 g3.2.1
      unfold isAbs at this
      omega
  constructor
  · rintro (h | ⟨d, ⟨d1, d2, d3, d4⟩, h⟩)
    · refine ⟨sb, none_of fun i hi hk he => ?_⟩
      unfold dFits at h
      rw [if_neg (by decide), if_neg (by decide), if_neg (by decide)] at h
      cases hx : dLoop l k (-1) 0 (List.range l.length) (-1) (-1) with
      | none => rw [hx] at h; cases h
      | some x =>
        obtain ⟨a, b⟩ := x
        rcases (dloop_some _ _ _ _ _ hx).ok i (List.mem_range.2 hi) ⟨by omega, hk, (ended_iff (ho i hi)).1 he⟩ with g | g
        · exact g
        · exact absurd (.inl (by decide)) g
    · unfold dFits at h
      rw [if_pos (by omega), if_pos (by omega), if_pos (by omega), Int.toNat_natCast] at h
      cases hx : dLoop l k d (cAt l d).value (List.range l.length) (cAt l d).fr (cAt l d).to with
      | none => rw [hx] at h; cases h
      | some x =>
        obtain ⟨lo, hi⟩ := x
        rw [hx] at h
        have E := dloop_some _ _ _ _ _ hx
        have hod := ho d d1
        have hlh : hi < 0 ∨ lo < hi := by simpa [show ¬ ((d : Int) < 0) by omega] using h
        -- others that ended
        have hoth : ∀ i, i < l.length → (cAt l i).key = k → (cAt l i).to ≠ -1 → i ≠ d → isAbs (cAt l i) ∨ ¬ bad d (cAt l d).value (cAt l i) := fun i h1 h2 h3 h4 => E.ok i (List.mem_range.2 h1) ⟨by omega, h2, (ended_iff (ho i h1)).1 h3⟩
        have hfit : FitsC (sb.map (cAt l)) (sa.map (cAt l)) (cAt l d) := by
          have hb : ∀ i ∈ sb, (cAt l i).fr ≤ lo ∧ i ≠ d := fun i hi => by
            obtain ⟨g1, g2, g3⟩ := hB i hi
            have g4 := (bef_iff g2).1 g3
            have hid : i ≠ d := fun e => by rw [e] at g4; omega
            exact ⟨E.lo.2 i (List.mem_range.2 g1) ⟨by omega, g4.1, (ended_iff g2).1 g4.2.1⟩ ⟨g4.2.2.2.1, g4.2.2.1⟩, hid⟩
          have ha : ∀ j ∈ sa, 0 ≤ hi ∧ hi ≤ (cAt l j).to ∧ ((cAt l j).kind = 1 ∨ (cAt l j).ans = (cAt l d).value) := fun j hj => by
            obtain ⟨g1, g2, g3⟩ := hA j hj
            have g4 := (aft_iff g2).1 g3
            have hid : j ≠ d := fun e => by rw [e] at g4; omega
            have hna : ¬ isAbs (cAt l j) := fun e => by unfold isAbs at e; omega
            have h5 := E.hi.2 j (List.mem_range.2 g1) ⟨by omega, g4.1, (ended_iff g2).1 g4.2.1⟩ hna
            have h6 := (hoth j g1 g4.1 g4.2.1 hid).resolve_left hna
            refine ⟨h5.1, h5.2, ?_⟩
            by_cases hk1 : (cAt l j).kind = 1
            · exact .inl hk1
            · exact .inr (Classical.byContradiction fun e => h6 (.inr (.inr ⟨hk1, e⟩)))
          have hl1 := E.lo.1
          have hh1 := E.hi.1
          refine ⟨fun c hc => ?_, fun c hc => ?_⟩
          · obtain ⟨i, hi2, rfl⟩ := List.mem_map.1 hc
            have h7 := (hb i hi2).1
            refine ⟨ahead_no.2 fun he => ?_, fun x hx2 => ?_⟩
            · have := (ended_iff hod).1 he
              omega
            · obtain ⟨j, hj, rfl⟩ := List.mem_map.1 hx2
              have h8 := ha j hj
              exact ahead_no.2 fun he => by omega
          · obtain ⟨j, hj, rfl⟩ := List.mem_map.1 hc
            have h8 := ha j hj
            exact ⟨ahead_no.2 fun he => by omega, h8.2.2⟩
        have hput : ∀ i ∈ idxOf l (isPut k), i = d := fun i hi2 => by
          apply Classical.byContradiction
          intro hid
          obtain ⟨g1, g2⟩ := mem_idx.1 hi2
          unfold isPut okDef at g2
          simp only [Bool.and_eq_true, decide_eq_true_eq] at g2
          rcases hoth i g1 g2.1.1 g2.1.2 hid with g | g
          · unfold isAbs at g; omega
          · exact g (.inr (.inl ⟨g2.2.1, g2.2.2⟩))
        by_cases ht : (cAt l d).to = -1
        · have hp0 : idxOf l (isPut k) = [] := by
            refine List.eq_nil_iff_forall_not_mem.2 fun i hi2 => ?_
            have e := hput i hi2
            obtain ⟨g1, g2⟩ := mem_idx.1 hi2
            unfold isPut okDef at g2
            simp only [Bool.and_eq_true, decide_eq_true_eq] at g2
            rw [e] at g2
            exact g2.1.2 ht
          by_cases ha0 : idxOf l (isAft k) = []
          · exact ⟨sb, .none hp0 ha0⟩
          · exact ⟨_, .may d hp0 ha0 (mem_idx.2 ⟨d1, by unfold isMay; simp [d2, ht, d3]⟩) hfit⟩
        · exact ⟨_, .sure d (nodup_one (idx_nodup _ _) hput (mem_idx.2 ⟨d1, by unfold isPut okDef; simp [d2, ht, d3, d4]⟩)) hfit⟩
  · rintro ⟨r, hr⟩
    rcases hr.put ho with ⟨rfl, h1, _, h2⟩ | ⟨p, rfl, hpl, hpo, hpk, hpd, hpe, hf, hpu, hpm⟩
    · refine .inl ?_
      unfold dFits
      rw [if_neg (by decide), if_neg (by decide), if_neg (by decide)]
      obtain ⟨x, hx⟩ := dloop_ok (l := l) (k := k) (d := -1) (v := 0) (List.range l.length) (-1) (-1) (fun i hi hin => by
        have hil := List.mem_range.1 hi
        rcases kinds hin.2.1 ((ended_iff (ho i hil)).2 hin.2.2) with g | g | g
        · have := (bef_iff (ho i hil)).1 g
          exact .inl ⟨this.2.2.2.1, this.2.2.1⟩
        · have := mem_idx.2 ⟨hil, g⟩; rw [h2] at this; cases this
        · have := mem_idx.2 ⟨hil, g⟩; rw [h1] at this; cases this)
      rw [hx]
      rfl
    · refine .inr ⟨p, ⟨hpl, hpk, hpd, hpe⟩, ?_⟩
      unfold dFits
      rw [if_pos (by omega), if_pos (by omega), if_pos (by omega), Int.toNat_natCast]
      have hother : ∀ i, i < l.length → isIn l k p i → (i ∈ sb ∧ isAbs (cAt l i)) ∨ (i ∈ sa ∧ ¬ isAbs (cAt l i) ∧ ¬ bad p (cAt l p).value (cAt l i)) := fun i hil hin => by
        rcases kinds hin.2.1 ((ended_iff (ho i hil)).2 hin.2.2) with g | g | g
        · have g2 := (bef_iff (ho i hil)).1 g
          exact .inl ⟨H.b.mem_iff.2 (mem_idx.2 ⟨hil, g⟩), g2.2.2.2.1, g2.2.2.1⟩
        · have g2 := (aft_iff (ho i hil)).1 g
          have hm := H.a.mem_iff.2 (mem_idx.2 ⟨hil, g⟩)
          have h3 := (hf.a _ (List.mem_map.2 ⟨i, hm, rfl⟩)).2
          refine .inr ⟨hm, fun e => by unfold isAbs at e; omega, fun e => ?_⟩
          unfold bad at e
          omega
        · have := hpu i (mem_idx.2 ⟨hil, g⟩)
          exact absurd (by rw [this]) hin.1
      obtain ⟨⟨lo, hi⟩, hx⟩ := dloop_ok (l := l) (k := k) (d := p) (v := (cAt l p).value) (List.range l.length) (cAt l p).fr (cAt l p).to (fun i hi hin => by
        rcases hother i (List.mem_range.1 hi) hin with g | g
        · exact .inl g.2
        · exact .inr g.2.2)
      have E := dloop_some _ _ _ _ _ hx
      rw [hx]
      have hres : hi < 0 ∨ lo < hi := by
        by_cases hh : hi < 0
        · exact .inl hh
        · refine .inr ?_
          -- every beginning is ahead of every end
          have lo_lt : ∀ y : Int, 0 ≤ y → (cAt l p).fr < y → (∀ i ∈ sb, (cAt l i).fr < y) → lo < y := fun y _ h1 h2 => by
            rcases E.lo2 with e | ⟨i, hi2, hin, hab, e⟩
            · omega
            · rcases hother i (List.mem_range.1 hi2) hin with g | g
              · have := h2 i g.1; omega
              · exact absurd hab g.2.1
          rcases E.hi2 with e | ⟨j, hj, hin, hna, e⟩
          · have hpt : (cAt l p).to ≠ -1 := by omega
            have hpf := hpo.ended hpt
            refine lo_lt hi (by omega) (by omega) fun i hi2 => ?_
            have := ahead_no.1 (hf.b _ (List.mem_map.2 ⟨i, hi2, rfl⟩)).1 hpt
            omega
          · rcases hother j (List.mem_range.1 hj) hin with g | g
            · exact absurd g.2 hna
            · have hje := (ended_iff (ho j (List.mem_range.1 hj))).2 hin.2.2
              have h1 := ahead_no.1 (hf.a _ (List.mem_map.2 ⟨j, g.1, rfl⟩)).1 hje
              refine lo_lt hi (by omega) (by omega) fun i hi2 => ?_
              have := ahead_no.1 ((hf.b _ (List.mem_map.2 ⟨i, hi2, rfl⟩)).2 _ (List.mem_map.2 ⟨j, g.1, rfl⟩)) hje
              omega
      rcases hres with h | h
      · simp [h]
      · simp [h]
end Go.Proofs.Ytabkmdhkfbcldaa
namespace Go.Proofs.Ytabkmdhkfbcldaa
variable {l : List Cl} {k : ByteArray} {sb sa r o : List Nat}

/-- There is an order. -/
def Lin (l : List Cl) : Prop := ∃ o, Legal l o
/-- A name's calls, by their beginnings: they exist. -/
def insFr (l : List Cl) (i : Nat) : List Nat → List Nat
  | [] => [i]
  | j :: q => if (cAt l i).fr ≤ (cAt l j).fr then i :: j :: q else j :: insFr l i q
theorem ins_perm (i : Nat) : ∀ q : List Nat, (insFr l i q).Perm (i :: q)
  | [] => List.Perm.refl _
  | j :: q => by
    unfold insFr
    split
    · exact List.Perm.refl _
    · exact ((ins_perm i q).cons j).trans (List.Perm.swap i j q)
theorem ins_by (i : Nat) : ∀ q : List Nat, ByFr l q → ByFr l (insFr l i q)
  | [], _ => List.pairwise_singleton _ _
  | j :: q, h => by
    obtain ⟨h1, h2⟩ := List.pairwise_cons.1 h
    unfold insFr
    split
    · rename_i hle
      refine List.pairwise_cons.2 ⟨fun x hx => ?_, h⟩
      rcases List.mem_cons.1 hx with e | hx
      · rw [e]; exact hle
      · exact Int.le_trans hle (h1 x hx)
    · rename_i hle
      refine List.pairwise_cons.2 ⟨fun x hx => ?_, ins_by i q h2⟩
      rcases List.mem_cons.1 ((ins_perm i q).mem_iff.1 hx) with e | hx
      · rw [e]; omega
      · exact h1 x hx
def sortFr (l : List Cl) (q : List Nat) : List Nat := q.foldr (insFr l) []
theorem sort_perm : ∀ q : List Nat, (sortFr l q).Perm q
  | [] => List.Perm.refl _
  | i :: q => (ins_perm i _).trans ((sort_perm q).cons i)
theorem sort_by : ∀ q : List Nat, ByFr l (sortFr l q)
  | [] => List.Pairwise.nil
  | i :: q => ins_by i _ (sort_by q)
theorem parts_there (l : List Cl) (k : ByteArray) : Parts l k (sortFr l (idxOf l (isBef k))) (sortFr l (idxOf l (isAft k))) :=
  ⟨sort_perm _, sort_perm _, sort_by _, sort_by _⟩
/-- The names. -/
def keysOf (l : List Cl) : List ByteArray := (l.map Cl.key).foldr (fun k q => if q.any (fun j => decide (j = k)) then q else k :: q) []
theorem keys_aux : ∀ q : List ByteArray, (q.foldr (fun k q => if q.any (fun j => decide (j = k)) then q else k :: q) []).Nodup ∧ ∀ k ∈ q, k ∈ q.foldr (fun k q => if q.any (fun j => decide (j = k)) then q else k :: q) []
  | [] => ⟨List.nodup_nil, fun k h => by cases h⟩
  | k :: q => by
    obtain ⟨h1, h2⟩ := keys_aux q
    simp only [List.foldr_cons]
    split
    · rename_i hk
      obtain ⟨j, hj, e⟩ := List.any_eq_true.1 hk
      have e : j = k := by simpa using e
      refine ⟨h1, fun x hx => ?_⟩
      rcases List.mem_cons.1 hx with e2 | hx
      · rw [e2, ← e]; exact hj
      · exact h2 x hx
    · rename_i hk
      refine ⟨List.nodup_cons.2 ⟨fun hm => hk (List.any_eq_true.2 ⟨k, hm, by simp⟩), h1⟩, fun x hx => ?_⟩
      rcases List.mem_cons.1 hx with e2 | hx
      · rw [e2]; exact List.mem_cons_self ..
      · exact List.mem_cons_of_mem _ (h2 x hx)
theorem keys_mem (i : Nat) (h : i < l.length) : (cAt l i).key ∈ keysOf l := (keys_aux _).2 _ (List.mem_map.2 ⟨l[i], List.getElem_mem h, by simp [cAt, List.getD_eq_getElem?_getD, h]⟩)
/-- A legal order, just if each name has a row. -/
theorem lin_rows (ho : ∀ i, i < l.length → OneC (cAt l i)) (hm : ∀ i, i < l.length → (cAt l i).to ≤ maxI) : Lin l ↔ ∀ i, i < l.length → ∃ r, RowOk l (cAt l i).key r := by
  constructor
  · rintro ⟨o, h⟩ i hi
    obtain ⟨r, hr⟩ := legal_row (k := (cAt l i).key) h ho (parts_there l _)
    exact ⟨r, row_ok hr (parts_there l _) ho⟩
  · intro h
    have hrow : ∀ k, ∃ r, k ∈ keysOf l → RowOk l k r := fun k => by
      by_cases hk : ∃ i, i < l.length ∧ (cAt l i).key = k
      · obtain ⟨i, hi, e⟩ := hk
        obtain ⟨r, hr⟩ := h i hi
        rw [e] at hr
        exact ⟨r, fun _ => hr⟩
      · refine ⟨[], fun hkk => ?_⟩
        exact ⟨⟨List.Pairwise.nil, fun h => absurd rfl h⟩, fun i hi => (by cases hi), List.nodup_nil, fun i hi e _ => absurd ⟨i, hi, e⟩ hk, rfl⟩
    exact ⟨_, rows_legal (f := fun k => Classical.choose (hrow k)) ho hm (keys_aux _).1 (fun i hi => keys_mem i hi) (fun k hk => Classical.choose_spec (hrow k) hk) _ (Nat.le_refl _)⟩
/-- A lookup that tells what no define of its name has: there is no order. -/
theorem wrong_no (ho : ∀ i, i < l.length → OneC (cAt l i)) (i : Nat) (hi : i < l.length) (h1 : (cAt l i).kind ≠ 1) (h2 : 0 ≤ (cAt l i).to) (h3 : (cAt l i).err = 0)
    (hno : ∀ d, d < l.length → (cAt l d).kind = 1 → (cAt l d).key = (cAt l i).key → (cAt l d).value ≠ (cAt l i).ans) : ¬ Lin l := by
  rintro ⟨o, h⟩
  obtain ⟨r, hr⟩ := legal_row (k := (cAt l i).key) h ho (parts_there l _)
  have hia : isAft (cAt l i).key (cAt l i) = true := (aft_iff (ho i hi)).2 ⟨rfl, by omega, .inr ⟨h1, h3⟩⟩
  have him := mem_idx.2 ⟨hi, hia⟩
  rcases hr.put ho with ⟨_, _, _, g⟩ | ⟨p, _, hpl, _, hpk, hpd, _, hf, _⟩
  · rw [g] at him; cases him
  · have := (hf.a _ (List.mem_map.2 ⟨i, (sort_perm _).mem_iff.2 him, rfl⟩)).2
    rcases this with g | g
    · exact h1 g
    · exact hno p hpl hpd hpk g.symm

/-- The calls of a name. -/
def ofN (l : List Cl) (k : ByteArray) : List Cl := l.filter (fun c => decide (c.key = k))
/-- Their places. -/
def plN (l : List Cl) (k : ByteArray) : List Nat := (List.range l.length).filter (isK l k)
theorem pl_of : (plN l k).map (cAt l) = ofN l k := by
  have h : (List.range l.length).map (cAt l) = l := by
    refine List.ext_getElem (by simp) fun i h1 h2 => ?_
    simp [cAt, List.getD_eq_getElem?_getD, h2]
  unfold ofN plN
  conv => rhs; rw [← h]
  rw [List.filter_map]
  rfl
theorem of_len : (ofN l k).length = (plN l k).length := by rw [← pl_of, List.length_map]
theorem of_at (j : Nat) (h : j < (plN l k).length) : cAt (ofN l k) j = cAt l (plN l k)[j] := by
  have h2 : j < (ofN l k).length := by rw [of_len]; exact h
  have e : cAt (ofN l k) j = (ofN l k)[j] := by simp [cAt, List.getD_eq_getElem?_getD, h2]
  rw [e]
  simp only [← pl_of, List.getElem_map]
theorem pl_mem {i : Nat} : i ∈ plN l k ↔ i < l.length ∧ (cAt l i).key = k := by simp [plN, isK]
theorem pl_nodup : (plN l k).Nodup := List.nodup_range.filter _
theorem pl_inj {a b : Nat} (h1 : a < (plN l k).length) (h2 : b < (plN l k).length) (e : (plN l k)[a] = (plN l k)[b]) : a = b := by
  have hp : (plN l k).Pairwise (· < ·) := List.pairwise_lt_range.filter _
  rw [List.pairwise_iff_getElem] at hp
  rcases Nat.lt_trichotomy a b with h | h | h
  · have := hp a b h1 h2 h; omega
  · exact h
  · have := hp b a h2 h1 h; omega
/-- A row of a name's calls is one of all calls. -/
theorem row_up (h : RowOk (ofN l k) k r) : RowOk l k (r.map (fun j => (plN l k).getD j 0)) := by
  have hlt : ∀ j ∈ r, j < (plN l k).length := fun j hj => by rw [← of_len]; exact (h.lt j hj).1
  have hge : ∀ j ∈ r, (plN l k).getD j 0 = (plN l k)[j]! ∧ cAt l ((plN l k).getD j 0) = cAt (ofN l k) j := fun j hj => by
    have := hlt j hj
    rw [of_at j this]
    simp [List.getD_eq_getElem?_getD, this]
  refine ⟨⟨?_, fun hne => ?_⟩, fun i hi => ?_, ?_, fun i hi hk he => ?_, ?_⟩
  · unfold RT
    rw [List.pairwise_map]
    refine List.Pairwise.imp_of_mem (fun {a b} ha hb hab => ?_) h.g.rt
    rw [(hge a ha).2, (hge b hb).2]; exact hab
  · have hne2 : r ≠ [] := fun e => hne (by rw [e]; rfl)
    rw [List.getLast_map, (hge _ (List.getLast_mem hne2)).2]
    exact h.g.last hne2
  · obtain ⟨j, hj, rfl⟩ := List.mem_map.1 hi
    have h1 := hlt j hj
    have : (plN l k).getD j 0 = (plN l k)[j] := by simp [List.getD_eq_getElem?_getD, h1]
    rw [this]
    exact pl_mem.1 (List.getElem_mem h1)
  · unfold List.Nodup
    rw [List.pairwise_map]
    refine List.Pairwise.imp_of_mem (fun {a b} ha hb hab e => ?_) h.nd
    have h1 := hlt a ha
    have h2 := hlt b hb
    simp only [List.getD_eq_getElem?_getD, List.getElem?_eq_getElem h1, List.getElem?_eq_getElem h2, Option.getD_some] at e
    exact hab (pl_inj h1 h2 e)
  · obtain ⟨j, hj, e⟩ := List.getElem_of_mem (pl_mem.2 ⟨hi, hk⟩)
    have hj2 := h.all j (by rw [of_len]; exact hj) (by rw [of_at j hj, e]; exact hk) (by rw [of_at j hj, e]; exact he)
    exact List.mem_map.2 ⟨j, hj2, by simp [List.getD_eq_getElem?_getD, hj, e]⟩
  · rw [List.map_map]
    have : r.map (cAt l ∘ fun j => (plN l k).getD j 0) = r.map (cAt (ofN l k)) := List.map_congr_left (fun j hj => (hge j hj).2)
    rw [this]; exact h.st
end Go.Proofs.Ytabkmdhkfbcldaa
namespace Go.Proofs.Ytabkmdhkfbcldaa
variable {l : List Cl} {k : ByteArray} {r o : List Nat}

theorem of_one (ho : ∀ i, i < l.length → OneC (cAt l i)) : ∀ j, j < (ofN l k).length → OneC (cAt (ofN l k) j) ∧ (cAt (ofN l k) j).key = k := fun j hj => by
  rw [of_len] at hj
  rw [of_at j hj]
  have := pl_mem.1 (List.getElem_mem hj)
  exact ⟨ho _ this.1, this.2⟩
/-- Where a call lies among those of its name. -/
def posN (l : List Cl) (k : ByteArray) (i : Nat) : Nat := (plN l k).findIdx (fun j => j == i)
theorem pos_at {i : Nat} (h : i ∈ plN l k) : ∃ hl : posN l k i < (plN l k).length, (plN l k)[posN l k i] = i := by
  have hl : posN l k i < (plN l k).length := List.findIdx_lt_length_of_exists ⟨i, h, by simp⟩
  refine ⟨hl, ?_⟩
  have := List.findIdx_getElem (xs := plN l k) (p := fun j => j == i) (w := hl)
  exact beq_iff_eq.1 this
theorem row_down (h : RowOk l k r) : RowOk (ofN l k) k (r.map (posN l k)) := by
  have hp : ∀ i ∈ r, i ∈ plN l k := fun i hi => pl_mem.2 (h.lt i hi)
  have hc : ∀ i ∈ r, cAt (ofN l k) (posN l k i) = cAt l i := fun i hi => by
    obtain ⟨hl, e⟩ := pos_at (hp i hi)
    rw [of_at _ hl, e]
  refine ⟨⟨?_, fun hne => ?_⟩, fun j hj => ?_, ?_, fun j hj hk he => ?_, ?_⟩
  · unfold RT
    rw [List.pairwise_map]
    refine List.Pairwise.imp_of_mem (fun {a b} ha hb hab => ?_) h.g.rt
    rw [hc a ha, hc b hb]; exact hab
  · have hne2 : r ≠ [] := fun e => hne (by rw [e]; rfl)
    rw [List.getLast_map, hc _ (List.getLast_mem hne2)]
    exact h.g.last hne2
  · obtain ⟨i, hi, rfl⟩ := List.mem_map.1 hj
    obtain ⟨hl, e⟩ := pos_at (hp i hi)
    exact ⟨by rw [of_len]; exact hl, by rw [hc i hi]; exact (h.lt i hi).2⟩
  · unfold List.Nodup
    rw [List.pairwise_map]
    refine List.Pairwise.imp_of_mem (fun {a b} ha hb hab e => ?_) h.nd
    obtain ⟨h1, e1⟩ := pos_at (hp a ha)
    obtain ⟨h2, e2⟩ := pos_at (hp b hb)
    refine hab ?_
    rw [← e1, ← e2]
    congr 1
  · rw [of_len] at hj
    have h1 := pl_mem.1 (List.getElem_mem hj)
    rw [of_at j hj] at he
    have h2 := h.all _ h1.1 h1.2 he
    obtain ⟨hl, e⟩ := pos_at (hp _ h2)
    exact List.mem_map.2 ⟨_, h2, pl_inj hl hj e⟩
  · rw [List.map_map]
    have : r.map (cAt (ofN l k) ∘ posN l k) = r.map (cAt l) := List.map_congr_left (fun i hi => hc i hi)
    rw [this]; exact h.st
/-- Where all calls are of one name, its row is a legal order. -/
theorem row_legal (hk : ∀ i, i < l.length → (cAt l i).key = k) (h : RowOk l k r) : Legal l r := by
  refine ⟨h.nd, fun i hi => (h.lt i hi).1, fun i hi he => h.all i hi (hk i hi) he, h.g.rt, (steps_keys _ _).2 fun j => ?_⟩
  by_cases e : k = j
  · subst e
    have : ofKey k (r.map (cAt l)) = r.map (cAt l) := List.filter_eq_self.2 (fun c hc => by
      obtain ⟨i, hi, rfl⟩ := List.mem_map.1 hc
      exact decide_eq_true (h.lt i hi).2)
    rw [this]; exact h.st
  · have : ofKey j (r.map (cAt l)) = [] := List.filter_eq_nil_iff.2 (fun c hc => by
      obtain ⟨i, hi, rfl⟩ := List.mem_map.1 hc
      have := (h.lt i hi).2
      simp [this, e])
    rw [this]; rfl
theorem lin_of (ho : ∀ i, i < l.length → OneC (cAt l i)) : Lin (ofN l k) ↔ ∃ r, RowOk l k r := by
  constructor
  · rintro ⟨o, h⟩
    have ho2 := fun j hj => (of_one (k := k) ho j hj).1
    obtain ⟨r, hr⟩ := legal_row (k := k) h ho2 (parts_there _ _)
    exact ⟨_, row_up (row_ok hr (parts_there _ _) ho2)⟩
  · rintro ⟨r, h⟩
    exact ⟨_, row_legal (fun j hj => (of_one (k := k) ho j hj).2) (row_down h)⟩
/-- Name by name. -/
theorem lin_names (ho : ∀ i, i < l.length → OneC (cAt l i)) (hm : ∀ i, i < l.length → (cAt l i).to ≤ maxI) : Lin l ↔ ∀ i, i < l.length → Lin (ofN l (cAt l i).key) := by
  rw [lin_rows ho hm]
  exact ⟨fun h i hi => (lin_of ho).2 (h i hi), fun h i hi => (lin_of ho).1 (h i hi)⟩

/-- The document's try: a beginning of an order that goes on to a legal one. -/
def endedIn (l : List Cl) (o : List Nat) : Bool := (List.range l.length).all (fun i => o.contains i || decide ((cAt l i).to < 0))
def behindIn (l : List Cl) (o : List Nat) (i : Nat) : Bool := (List.range l.length).any (fun k => decide (k ≠ i) && !o.contains k && aheadC (cAt l k) (cAt l i))
def tryN (l : List Cl) : Nat → List Nat → Bool
  | 0, _ => false
  | f + 1, o => stepsF (fun _ => none) (o.map (cAt l)) && (endedIn l o || (List.range l.length).any (fun i => !o.contains i && !behindIn l o i && tryN l f (o ++ [i])))
/-- A beginning: in order, and nothing that is not in it ended ahead of one that is. -/
structure Beg (l : List Cl) (o : List Nat) : Prop where
  nd : o.Nodup
  lt : ∀ i ∈ o, i < l.length
  rt : RT l o
  out : ∀ i ∈ o, ∀ j, j < l.length → j ∉ o → aheadC (cAt l j) (cAt l i) = false
theorem try_sound (ho : ∀ i, i < l.length → OneC (cAt l i)) : ∀ (f : Nat) (o : List Nat), Beg l o → tryN l f o = true → Lin l
  | f + 1, o, hb, h => by
    have h : (stepsF (fun _ => none) (o.map (cAt l)) && (endedIn l o || (List.range l.length).any (fun i => !o.contains i && !behindIn l o i && tryN l f (o ++ [i])))) = true := h
    rw [Bool.and_eq_true, Bool.or_eq_true] at h
    obtain ⟨h1, h2 | h2⟩ := h
    · refine ⟨o, hb.nd, hb.lt, fun i hi he => ?_, hb.rt, h1⟩
      have := List.all_eq_true.1 h2 i (List.mem_range.2 hi)
      rw [Bool.or_eq_true] at this
      rcases this with g | g
      · simpa using g
      · have := (ended_iff (ho i hi)).1 he
        simp at g; omega
    · obtain ⟨i, hi, h3⟩ := List.any_eq_true.1 h2
      have hil := List.mem_range.1 hi
      simp only [Bool.and_eq_true, Bool.not_eq_true'] at h3
      obtain ⟨⟨h4, h5⟩, h6⟩ := h3
      have hio : i ∉ o := by simpa using h4
      have hbeh : ∀ k, k < l.length → k ≠ i → k ∉ o → aheadC (cAt l k) (cAt l i) = false := fun k hk hki hko => by
        have := List.any_eq_false.1 h5 k (List.mem_range.2 hk)
        simp only [Bool.and_eq_true, decide_eq_true_eq, Bool.not_eq_true', not_and] at this
        have := this ⟨hki, by simpa using hko⟩
        simpa using this
      refine try_sound ho f (o ++ [i]) ⟨?_, fun j hj => ?_, ?_, fun j hj x hx hxo => ?_⟩ h6
      · exact List.nodup_append.2 ⟨hb.nd, List.nodup_cons.2 ⟨by simp, List.nodup_nil⟩, fun a ha b hb2 e => hio (by rw [List.mem_singleton.1 hb2] at e; rw [← e]; exact ha)⟩
      · rcases List.mem_append.1 hj with hj | hj
        · exact hb.lt j hj
        · rw [List.mem_singleton.1 hj]; exact hil
      · refine List.pairwise_append.2 ⟨hb.rt, List.pairwise_singleton _ _, fun a ha b hb2 => ?_⟩
        rw [List.mem_singleton.1 hb2]
        exact hb.out a ha i hil hio
      · have hxo2 : x ∉ o ∧ x ≠ i := by simpa using hxo
        rcases List.mem_append.1 hj with hj | hj
        · exact hb.out j hj x hx hxo2.1
        · rw [List.mem_singleton.1 hj]; exact hbeh x hx hxo2.2 hxo2.1
theorem steps_prefix : ∀ (a b : List Cl) (m : ByteArray → Option Int), stepsF m (a ++ b) = true → stepsF m a = true
  | [], _, _, _ => rfl
  | c :: a, b, m, h => by
    have h : (stepOk c (m c.key) && stepsF (setF m c.key (applyC c (m c.key)).2.2.1) (a ++ b)) = true := h
    rw [Bool.and_eq_true] at h
    show (stepOk c (m c.key) && _) = true
    rw [Bool.and_eq_true]
    exact ⟨h.1, steps_prefix a b _ h.2⟩
theorem try_complete (hl : Legal l r) (ho : ∀ i, i < l.length → OneC (cAt l i)) : ∀ (b a : List Nat) (f : Nat), r = a ++ b → b.length < f → tryN l f a = true
  | b, a, 0, _, hf => by omega
  | b, a, f + 1, e, hf => by
    have hst : stepsF (fun _ => none) (a.map (cAt l)) = true := by
      have := hl.st
      rw [e, List.map_append] at this
      exact steps_prefix _ _ _ this
    show (_ && (_ || _)) = true
    rw [hst, Bool.true_and, Bool.or_eq_true]
    match b with
    | [] =>
      refine .inl (List.all_eq_true.2 fun i hi => ?_)
      have hil := List.mem_range.1 hi
      rw [List.append_nil] at e
      rw [Bool.or_eq_true]
      by_cases he : (cAt l i).to = -1
      · exact .inr (by simp; omega)
      · have := hl.all i hil he
        rw [e] at this
        exact .inl (by simpa using this)
    | i :: b =>
      have hi : i ∈ r := by rw [e]; simp
      have hil := hl.lt i hi
      have hnd := hl.nd
      rw [e] at hnd
      have hia : i ∉ a := fun h => by
        have := (List.nodup_append.1 hnd).2.2 i h i (List.mem_cons_self ..)
        exact this rfl
      refine .inr (List.any_eq_true.2 ⟨i, List.mem_range.2 hil, ?_⟩)
      simp only [Bool.and_eq_true, Bool.not_eq_true']
      refine ⟨⟨by simpa using hia, ?_⟩, try_complete hl ho b (a ++ [i]) f (by rw [e]; simp) (by simp at hf; omega)⟩
      unfold behindIn
      rw [List.any_eq_false]
      intro k hk
      have hkl := List.mem_range.1 hk
      simp only [Bool.and_eq_true, decide_eq_true_eq, Bool.not_eq_true', not_and]
      intro hka2
      have hki := hka2.1
      have hka : k ∉ a := by simpa using hka2.2
      by_cases hkr : k ∈ r
      · rw [e] at hkr
        have hkb : k ∈ b := by
          rcases List.mem_append.1 hkr with h | h
          · exact absurd h hka
          · rcases List.mem_cons.1 h with h | h
            · exact absurd h hki
            · exact h
        have hrt := hl.rt
        rw [e] at hrt
        have := (List.pairwise_cons.1 (List.pairwise_append.1 hrt).2.1).1 k hkb
        simp [this]
      · have : (cAt l k).to = -1 := Classical.byContradiction fun he => hkr (hl.all k hkl he)
        unfold aheadC
        simp [this]
theorem nodup_len : ∀ (n : Nat) (o : List Nat), o.Nodup → (∀ i ∈ o, i < n) → o.length ≤ n
  | 0, o, _, h => by
    cases o with
    | nil => exact Nat.le_refl _
    | cons a o => exact absurd (h a (List.mem_cons_self ..)) (by omega)
  | n + 1, o, hn, h => by
    by_cases hm : n ∈ o
    · have h1 := nodup_len n (o.erase n) (hn.erase n) (fun i hi => by
        have h2 := h i (List.mem_of_mem_erase hi)
        have h3 : i ≠ n := fun e => by subst e; exact (List.Nodup.not_mem_erase hn) hi
        omega)
      rw [List.length_erase_of_mem hm] at h1
      omega
    · have h1 := nodup_len n o hn (fun i hi => by
        have h2 := h i hi
        have h3 : i ≠ n := fun e => by subst e; exact hm hi
        omega)
      omega
theorem try_lin (ho : ∀ i, i < l.length → OneC (cAt l i)) {f : Nat} (hf : l.length < f) : tryN l f [] = true ↔ Lin l := by
  constructor
  · exact try_sound ho f [] ⟨List.nodup_nil, fun i hi => (by cases hi), List.Pairwise.nil, fun i hi => (by cases hi)⟩
  · rintro ⟨o, h⟩
    refine try_complete h ho o [] f rfl ?_
    have : o.length ≤ l.length := by
      exact nodup_len _ o h.nd h.lt
    omega
end Go.Proofs.Ytabkmdhkfbcldaa
namespace Go.Proofs.Ytabkmdhkfbcldaa

def either (a b : Cl) : Prop := aheadC a b = true ∨ aheadC b a = true
def nearOk (own : List Cl) : Prop := ∀ i, i + 1 < own.length → aheadC (cAt own i) (cAt own (i + 1)) = true
theorem near_cons {a b : Cl} {r : List Cl} : nearOk (a :: b :: r) ↔ aheadC a b = true ∧ nearOk (b :: r) := by
  constructor
  · intro h
    exact ⟨h 0 (by simp), fun i hi => h (i + 1) (by simp at hi ⊢; omega)⟩
  · rintro ⟨h1, h2⟩ i hi
    cases i with
    | zero => exact h1
    | succ i => exact h2 i (by simp at hi ⊢; omega)
theorem near_all : ∀ (r : List Cl) (a : Cl), (∀ c ∈ a :: r, OneC c) → nearOk (a :: r) → ∀ b ∈ r, aheadC a b = true
  | [], _, _, _, b, hb => absurd hb (by simp)
  | c :: r, a, ho, h, b, hb => by
    obtain ⟨h1, h2⟩ := near_cons.1 h
    rcases List.mem_cons.1 hb with e | hb
    · rw [e]; exact h1
    · have h3 := near_all r c (fun d hd => ho d (List.mem_cons_of_mem _ hd)) h2 b hb
      have h4 := ho c (by simp)
      unfold aheadC at h1 h3 ⊢
      simp only [Bool.and_eq_true, decide_eq_true_eq] at h1 h3 ⊢
      have := h4.ended h3.1
      exact ⟨h1.1, by omega⟩
theorem near_pair : ∀ (own : List Cl), (∀ c ∈ own, OneC c) → own.Pairwise (fun a b => a.fr ≤ b.fr) → (nearOk own ↔ own.Pairwise either)
  | [], _, _ => ⟨fun _ => List.Pairwise.nil, fun _ i hi => by simp at hi⟩
  | [a], _, _ => ⟨fun _ => List.pairwise_singleton _ _, fun _ i hi => by simp at hi⟩
  | a :: b :: r, ho, hs => by
    have hs2 := List.pairwise_cons.1 hs
    have ih := near_pair (b :: r) (fun c hc => ho c (List.mem_cons_of_mem _ hc)) hs2.2
    constructor
    · intro h
      exact List.pairwise_cons.2 ⟨fun c hc => .inl (near_all (b :: r) a ho h c hc), ih.1 (near_cons.1 h).2⟩
    · intro h
      obtain ⟨h1, h2⟩ := List.pairwise_cons.1 h
      refine near_cons.2 ⟨?_, ih.2 h2⟩
      rcases h1 b (List.mem_cons_self ..) with g | g
      · exact g
      · have h3 := hs2.1 b (List.mem_cons_self ..)
        have h4 := ho b (by simp)
        unfold aheadC at g
        simp only [Bool.and_eq_true, decide_eq_true_eq] at g
        have := h4.ended g.1
        omega
/-- Any two of one worker: one behind the other. -/
def Pairs (l : List Cl) : Prop := l.Pairwise (fun a b => a.w = b.w → either a b)
def ownW (l : List Cl) (w : Int) : List Cl := l.filter (fun c => decide (c.w = w))
theorem either_symm {a b : Cl} (h : either a b) : either b a := h.symm
theorem pairs_own {l : List Cl} (ho : ∀ c ∈ l, OneC c) : Pairs l ↔ ∀ w : Int, 0 ≤ w → w < 64 → (ownW l w).Pairwise either := by
  unfold Pairs ownW
  constructor
  · intro h w _ _
    refine (List.Pairwise.filter _ h).imp_of_mem fun {a b} ha hb hab => ?_
    have h1 := (List.mem_filter.1 ha).2
    have h2 := (List.mem_filter.1 hb).2
    exact hab ((of_decide_eq_true h1).trans (of_decide_eq_true h2).symm)
  · intro h
    rw [List.pairwise_iff_forall_sublist]
    intro a b hab e
    have ha : a ∈ l := hab.subset (by simp)
    have h1 := (ho a ha).w
    have h2 := h a.w h1.1 h1.2
    rw [List.pairwise_iff_forall_sublist] at h2
    refine h2 ?_
    have := hab.filter (fun c => decide (c.w = a.w))
    simpa [e] using this
theorem own_perm {l own : List Cl} (hp : own.Perm l) : own.Pairwise either ↔ l.Pairwise either := hp.pairwise_iff (fun h => either_symm h)
/-- All histories that may be. -/
structure HistOk (l : List Cl) : Prop where
  one : ∀ c ∈ l, OneC c
  two : Pairs l
open Classical in
/-- What Check says. -/
noncomputable def chkL (l : List Cl) : Int := if 4096 < l.length then 3 else if HistOk l then 0 else 260
theorem chk_ok {l : List Cl} (h : chkL l = 0) : l.length ≤ 4096 ∧ HistOk l := by
  unfold chkL at h
  by_cases h1 : 4096 < l.length
  · rw [if_pos h1] at h; cases h
  · rw [if_neg h1] at h
    by_cases h2 : HistOk l
    · exact ⟨by omega, h2⟩
    · rw [if_neg h2] at h; cases h
theorem chk_is {l : List Cl} (h1 : l.length ≤ 4096) (h2 : HistOk l) : chkL l = 0 := by
  unfold chkL
  rw [if_neg (by omega), if_pos h2]
theorem chk_bad {l : List Cl} (h1 : l.length ≤ 4096) (h2 : ¬ HistOk l) : chkL l = 260 := by
  unfold chkL
  rw [if_neg (by omega), if_neg h2]
theorem chk_long {l : List Cl} (h1 : 4096 < l.length) : chkL l = 3 := by
  unfold chkL
  rw [if_pos h1]
theorem HistOk.at {l : List Cl} (h : HistOk l) : ∀ i, i < l.length → OneC (cAt l i) := fun i hi => by
  have e : cAt l i = l[i] := by simp [cAt, List.getD_eq_getElem?_getD, hi]
  rw [e]; exact h.one _ (List.getElem_mem hi)
/-- A name's calls may be, where all may be. -/
theorem HistOk.of {l : List Cl} (h : HistOk l) (k : ByteArray) : HistOk (ofN l k) := by
  refine ⟨fun c hc => h.one c (List.mem_filter.1 hc).1, ?_⟩
  exact List.Pairwise.filter _ h.two
end Go.Proofs.Ytabkmdhkfbcldaa
namespace Go.Proofs.Ytabkmdhkfbcldaa

structure Dr where
  w : Int
  kind : Int
  key : Int
  value : Int
  wider : Int
  op : Bool
def kOf (d : Dr) : Int := d.key % 4
def wOf (d : Dr) : Int := d.w % 6
def nameOf (k : Int) : ByteArray := ⟨#[UInt8.ofNat (97 + k).toNat]⟩
structure PlS where
  l : List Cl
  hv : Int → Option Int
  fr : Int → Int
def setI {α : Type} (f : Int → α) (k : Int) (v : α) : Int → α := fun j => if j = k then v else f j
def pAt (i : Nat) : Int := 100 * i + 300
/-- The call, as it ends. -/
def pCall (i : Nat) (d : Dr) (s : PlS) : Cl :=
  { w := wOf d, kind := d.kind % 2 + 1, key := nameOf (kOf d), fr := max (pAt i - 10 - d.wider) (s.fr (wOf d)), to := pAt i + 10 + d.wider,
    value := if d.kind % 2 + 1 = 1 then d.value else 0,
    ans := match s.hv (kOf d) with | some v => if d.kind % 2 + 1 = 1 then 0 else v | none => 0,
    err := match s.hv (kOf d) with | some _ => if d.kind % 2 + 1 = 1 then 5 else 0 | none => if d.kind % 2 + 1 = 1 then 0 else 4 }
def pOpen (d : Dr) (c : Cl) : Cl := if d.op then { c with to := -1, err := 0, ans := 0 } else c
def pStep (i : Nat) (d : Dr) (s : PlS) : PlS :=
  if s.fr (wOf d) < 0 ∨ pAt i ≤ s.fr (wOf d) then s
  else
    { l := s.l ++ [pOpen d (pCall i d s)],
      hv := if d.kind % 2 + 1 = 1 ∧ s.hv (kOf d) = none then setI s.hv (kOf d) (some d.value) else s.hv,
      fr := setI s.fr (wOf d) (if d.op then -1 else (pCall i d s).to) }
def pRun : Nat → List Dr → PlS → PlS
  | _, [], s => s
  | i, d :: r, s => pRun (i + 1) r (pStep i d s)
/-- A script's parts are bytes. -/
structure DrOk (d : Dr) : Prop where
  w : 0 ≤ d.w ∧ d.w < 256
  kind : 0 ≤ d.kind ∧ d.kind < 256
  key : 0 ≤ d.key ∧ d.key < 256
  wider : 0 ≤ d.wider ∧ d.wider < 256

theorem nameOf_inj {a b : Int} (ha : 0 ≤ a ∧ a < 4) (hb : 0 ≤ b ∧ b < 4) (h : nameOf a = nameOf b) : a = b := by
  have h1 : a = 0 ∨ a = 1 ∨ a = 2 ∨ a = 3 := by omega
  have h2 : b = 0 ∨ b = 1 ∨ b = 2 ∨ b = 3 := by omega
  unfold nameOf at h
  injection h with h
  rcases h1 with rfl | rfl | rfl | rfl <;> rcases h2 with rfl | rfl | rfl | rfl <;> first | rfl | (exfalso; revert h; decide)
/-- The names' values as those of the numbers. -/
def stOf (hv : Int → Option Int) (k : ByteArray) : Option Int :=
  if k = nameOf 0 then hv 0 else if k = nameOf 1 then hv 1 else if k = nameOf 2 then hv 2 else if k = nameOf 3 then hv 3 else none
theorem st_at {hv : Int → Option Int} {k : Int} (h : 0 ≤ k ∧ k < 4) : stOf hv (nameOf k) = hv k := by
  have h1 : k = 0 ∨ k = 1 ∨ k = 2 ∨ k = 3 := by omega
  have n1 : nameOf 1 ≠ nameOf 0 := fun e => absurd (nameOf_inj (by omega) (by omega) e) (by omega)
  have n2 : nameOf 2 ≠ nameOf 0 := fun e => absurd (nameOf_inj (by omega) (by omega) e) (by omega)
  have n3 : nameOf 3 ≠ nameOf 0 := fun e => absurd (nameOf_inj (by omega) (by omega) e) (by omega)
  have n4 : nameOf 2 ≠ nameOf 1 := fun e => absurd (nameOf_inj (by omega) (by omega) e) (by omega)
  have n5 : nameOf 3 ≠ nameOf 1 := fun e => absurd (nameOf_inj (by omega) (by omega) e) (by omega)
  have n6 : nameOf 3 ≠ nameOf 2 := fun e => absurd (nameOf_inj (by omega) (by omega) e) (by omega)
  unfold stOf
  rcases h1 with rfl | rfl | rfl | rfl <;> simp [n1, n2, n3, n4, n5, n6]
theorem st_set {hv : Int → Option Int} {k : Int} {v : Option Int} (h : 0 ≤ k ∧ k < 4) : stOf (setI hv k v) = setF (stOf hv) (nameOf k) v := by
  funext j
  unfold setF
  by_cases e : j = nameOf k
  · rw [if_pos e, e, st_at h]; simp [setI]
  · rw [if_neg e]
    have h1 : k = 0 ∨ k = 1 ∨ k = 2 ∨ k = 3 := by omega
    unfold stOf setI
    rcases h1 with rfl | rfl | rfl | rfl <;> simp [e]
theorem setF_same {m : ByteArray → Option Int} {k : ByteArray} : setF m k (m k) = m := by
  funext j
  unfold setF
  by_cases e : j = k
  · rw [if_pos e, e]
  · rw [if_neg e]
/-- What there is behind calls. -/
def lastF (m : ByteArray → Option Int) : List Cl → (ByteArray → Option Int)
  | [] => m
  | c :: o => lastF (setF m c.key (applyC c (m c.key)).2.2.1) o
theorem steps_snoc : ∀ (o : List Cl) (c : Cl) (m : ByteArray → Option Int), stepsF m (o ++ [c]) = (stepsF m o && stepOk c (lastF m o c.key))
  | [], c, m => by show (stepOk c (m c.key) && true) = (true && stepOk c (m c.key)); simp
  | b :: o, c, m => by
    show (stepOk b (m b.key) && stepsF _ (o ++ [c])) = (stepOk b (m b.key) && stepsF _ o && _)
    rw [steps_snoc o c, Bool.and_assoc]; rfl
theorem last_snoc : ∀ (o : List Cl) (c : Cl) (m : ByteArray → Option Int), lastF m (o ++ [c]) = setF (lastF m o) c.key (applyC c (lastF m o c.key)).2.2.1
  | [], _, _ => rfl
  | b :: o, c, m => last_snoc o c _
structure PInv (i : Nat) (s : PlS) : Prop where
  one : ∀ c ∈ s.l, OneC c
  fr : ∀ c ∈ s.l, c.fr < pAt i
  two : Pairs s.l
  free : ∀ w, -1 ≤ s.fr w
  ends : ∀ c ∈ s.l, 0 ≤ s.fr c.w → c.to ≠ -1 ∧ c.to ≤ s.fr c.w
  st : stepsF (fun _ => none) s.l = true
  last : lastF (fun _ => none) s.l = stOf s.hv
  rt : s.l.Pairwise (fun a b => aheadC b a = false)
  len : s.l.length ≤ i
  to : ∀ c ∈ s.l, c.to ≤ 100 * i + 500
theorem pstep {i : Nat} {d : Dr} {s : PlS} (hd : DrOk d) (h : PInv i s) : PInv (i + 1) (pStep i d s) := by
  have hk : 0 ≤ kOf d ∧ kOf d < 4 := by unfold kOf; omega
  unfold pStep
  by_cases hf : s.fr (wOf d) < 0 ∨ pAt i ≤ s.fr (wOf d)
  · rw [if_pos hf]
    exact ⟨h.one, fun c hc => by have := h.fr c hc; unfold pAt at *; omega, h.two, h.free, h.ends, h.st, h.last, h.rt, by have := h.len; omega, fun c hc => by have := h.to c hc; omega⟩
  · rw [if_neg hf]
    have hf1 : 0 ≤ s.fr (wOf d) := by omega
    have hf2 : s.fr (wOf d) < pAt i := by omega
    have hwid := hd.wider
    have hkd := hd.kind
    -- the call, open or not
    obtain ⟨c, hc⟩ : ∃ c, c = pOpen d (pCall i d s) := ⟨_, rfl⟩
    have hcw : c.w = wOf d := by rw [hc]; unfold pOpen pCall; split <;> rfl
    have hck : c.kind = d.kind % 2 + 1 := by rw [hc]; unfold pOpen pCall; split <;> rfl
    have hcn : c.key = nameOf (kOf d) := by rw [hc]; unfold pOpen pCall; split <;> rfl
    have hcf : c.fr = max (pAt i - 10 - d.wider) (s.fr (wOf d)) := by rw [hc]; unfold pOpen pCall; split <;> rfl
    have hcv : c.value = if d.kind % 2 + 1 = 1 then d.value else 0 := by rw [hc]; unfold pOpen pCall; split <;> rfl
    have hct : c.to = if d.op then -1 else pAt i + 10 + d.wider := by
      rw [hc]; unfold pOpen pCall
      by_cases ho : d.op = true
      · rw [if_pos ho, if_pos ho]
      · rw [if_neg ho, if_neg ho]
    have hcae : (c.to = -1 → c.ans = 0 ∧ c.err = 0) ∧ (c.to ≠ -1 → c.ans = (match s.hv (kOf d) with | some v => if d.kind % 2 + 1 = 1 then 0 else v | none => 0) ∧ c.err = (match s.hv (kOf d) with | some _ => if d.kind % 2 + 1 = 1 then 5 else 0 | none => if d.kind % 2 + 1 = 1 then 0 else 4)) := by
      constructor
      · intro e
        rw [hct] at e
        by_cases ho : d.op = true
        · rw [hc]; unfold pOpen; rw [if_pos ho]; exact ⟨rfl, rfl⟩
        · rw [if_neg ho] at e; unfold pAt at e; omega
      · intro e
        by_cases ho : d.op = true
        · rw [hct, if_pos ho] at e; exact absurd rfl e
        · rw [hc]; unfold pOpen pCall; rw [if_neg ho]; exact ⟨rfl, rfl⟩
    have hlt : c.fr < pAt i := by rw [hcf]; omega
    have hto : c.to = -1 ∨ pAt i < c.to := by
      rw [hct]; split
      · exact .inl rfl
      · refine .inr ?_; omega
    have hw : 0 ≤ wOf d ∧ wOf d < 6 := by unfold wOf; omega
    have hone : OneC c := by
      refine ⟨by rw [hcw]; omega, by rw [hck]; omega, by rw [hcf]; unfold pAt; omega, by omega, ?_, hcae.1, ?_, ?_⟩
      · rw [hcv, hck]; split <;> omega
      · by_cases e : c.to = -1
        · exact .inl (hcae.1 e).1
        · obtain ⟨e1, e2⟩ := hcae.2 e
          rw [e1, e2, hck]
          cases s.hv (kOf d) with
          | none => exact .inl rfl
          | some v => simp only; split <;> omega
      · by_cases e : c.to = -1
        · exact .inl (hcae.1 e).2
        · obtain ⟨e1, e2⟩ := hcae.2 e
          rw [e2, hck]
          cases s.hv (kOf d) with
          | none => simp only; split <;> omega
          | some v => simp only; split <;> omega
    have hnoahead : ∀ b ∈ s.l, aheadC c b = false := fun b hb => ahead_no.2 fun he => by
      have := h.fr b hb
      omega
    have happ : applyC c (s.hv (kOf d)) = ((match s.hv (kOf d) with | some v => if d.kind % 2 + 1 = 1 then 0 else v | none => 0), (match s.hv (kOf d) with | some _ => if d.kind % 2 + 1 = 1 then 5 else 0 | none => if d.kind % 2 + 1 = 1 then 0 else 4), (if d.kind % 2 + 1 = 1 ∧ s.hv (kOf d) = none then some d.value else s.hv (kOf d)), true) := by
      cases hh : s.hv (kOf d) with
      | none =>
        by_cases hk1 : d.kind % 2 + 1 = 1
        · simp [applyC, hck, hcv, hk1]
        · have hk2 : d.kind % 2 + 1 = 2 := by omega
          simp [applyC, hck, hk2]
      | some v =>
        by_cases hk1 : d.kind % 2 + 1 = 1
        · simp [applyC, hck, hk1]
        · simp [applyC, hck, hk1]
    have hlastk : lastF (fun _ => none) s.l c.key = s.hv (kOf d) := by rw [h.last, hcn, st_at hk]
    rw [← hc]
    refine ⟨fun b hb => ?_, fun b hb => ?_, ?_, fun w => ?_, fun b hb => ?_, ?_, ?_, ?_, ?_, fun b hb => ?_⟩
    · rcases List.mem_append.1 hb with hb | hb
      · exact h.one b hb
      · rw [List.mem_singleton.1 hb]; exact hone
    · rcases List.mem_append.1 hb with hb | hb
      · have := h.fr b hb; unfold pAt at *; omega
      · rw [List.mem_singleton.1 hb]; unfold pAt at *; omega
    · refine List.pairwise_append.2 ⟨h.two, List.pairwise_singleton _ _, fun a ha b hb e => ?_⟩
      rw [List.mem_singleton.1 hb] at e ⊢
      rw [hcw] at e
      have := h.ends a ha (by rw [e]; exact hf1)
      rw [e] at this
      refine .inl ?_
      unfold aheadC
      simp only [Bool.and_eq_true, decide_eq_true_eq]
      exact ⟨this.1, by rw [hcf]; omega⟩
    · show -1 ≤ setI s.fr (wOf d) _ w
      unfold setI
      split
      · split
        · omega
        · show -1 ≤ pAt i + 10 + d.wider; unfold pAt; omega
      · exact h.free w
    · intro hfb
      replace hfb : 0 ≤ setI s.fr (wOf d) (if d.op then -1 else (pCall i d s).to) b.w := hfb
      show b.to ≠ -1 ∧ b.to ≤ setI s.fr (wOf d) (if d.op then -1 else (pCall i d s).to) b.w
      unfold setI at hfb ⊢
      by_cases e : b.w = wOf d
      · rw [if_pos e] at hfb ⊢
        by_cases ho : d.op = true
        · rw [if_pos ho] at hfb; omega
        · rw [if_neg ho] at hfb ⊢
          have e2 : (pCall i d s).to = pAt i + 10 + d.wider := rfl
          rw [e2] at hfb ⊢
          rcases List.mem_append.1 hb with hb | hb
          · have := h.ends b hb (by rw [e]; exact hf1)
            rw [e] at this
            exact ⟨this.1, by omega⟩
          · rw [List.mem_singleton.1 hb, hct, if_neg ho]
            unfold pAt
            omega
      · rw [if_neg e] at hfb ⊢
        rcases List.mem_append.1 hb with hb | hb
        · exact h.ends b hb hfb
        · rw [List.mem_singleton.1 hb] at e; exact absurd hcw e
    · rw [steps_snoc, h.st, Bool.true_and, hlastk]
      unfold stepOk
      rw [happ]
      by_cases e : c.to = -1
      · simp [e]
      · obtain ⟨e1, e2⟩ := hcae.2 e
        simp [e, e1, e2]
    · rw [last_snoc, hlastk, happ, h.last, hcn]
      show setF (stOf s.hv) (nameOf (kOf d)) _ = _
      by_cases hx : d.kind % 2 + 1 = 1 ∧ s.hv (kOf d) = none
      · rw [if_pos hx, if_pos hx, st_set hk]
      · rw [if_neg hx, if_neg hx, ← st_at (hv := s.hv) hk, setF_same]
    · refine List.pairwise_append.2 ⟨h.rt, List.pairwise_singleton _ _, fun a ha b hb => ?_⟩
      rw [List.mem_singleton.1 hb]; exact hnoahead a ha
    · have := h.len
      show (s.l ++ [c]).length ≤ _
      simp; omega
    · rcases List.mem_append.1 hb with hb | hb
      · have := h.to b hb; omega
      · rw [List.mem_singleton.1 hb, hct]
        unfold pAt
        split <;> omega
theorem prun : ∀ (r : List Dr) (i : Nat) (s : PlS), (∀ d ∈ r, DrOk d) → PInv i s → PInv (i + r.length) (pRun i r s)
  | [], i, s, _, h => h
  | d :: r, i, s, hd, h => by
    have := prun r (i + 1) (pStep i d s) (fun x hx => hd x (List.mem_cons_of_mem _ hx)) (pstep (hd d (List.mem_cons_self ..)) h)
    rw [List.length_cons, show i + (r.length + 1) = i + 1 + r.length by omega]
    exact this
def pS0 : PlS := ⟨[], fun _ => none, fun _ => 0⟩
theorem pinv0 : PInv 0 pS0 := by
  refine ⟨fun c hc => (by cases hc), fun c hc => (by cases hc), List.Pairwise.nil, fun w => (by show (-1 : Int) ≤ 0; omega), fun c hc => (by cases hc), rfl, ?_, List.Pairwise.nil, Nat.le_refl _, fun c hc => (by cases hc)⟩
  funext k
  show none = stOf (fun _ => none) k
  unfold stOf
  simp
/-- Calls that came one by one: their own order is legal. -/
theorem PInv.legal {i : Nat} {s : PlS} (h : PInv i s) : HistOk s.l ∧ Lin s.l := by
  have hc : ∀ j (hj : j < s.l.length), cAt s.l j = s.l[j] := fun j hj => by simp [cAt, List.getD_eq_getElem?_getD, hj]
  refine ⟨⟨h.one, h.two⟩, List.range s.l.length, List.nodup_range, fun j hj => List.mem_range.1 hj, fun j hj _ => List.mem_range.2 hj, ?_, ?_⟩
  · unfold RT
    rw [List.pairwise_iff_getElem]
    intro a b ha hb hab
    simp only [List.getElem_range]
    simp only [List.length_range] at ha hb
    rw [hc a ha, hc b hb]
    exact List.pairwise_iff_getElem.1 h.rt a b ha hb hab
  · have e : (List.range s.l.length).map (cAt s.l) = s.l := List.ext_getElem (by simp) fun j h1 h2 => by
      simp only [List.getElem_map, List.getElem_range]
      exact hc j h2
    rw [e]; exact h.st
end Go.Proofs.Ytabkmdhkfbcldaa
namespace Go.Proofs.Ytabkmdhkfbcldaa

structure Ak where
  kind : Int
  key : ByteArray
  value : Int
def ak0 : Ak := ⟨0, .empty, 0⟩
/-- A name that has a value; were those who await it told? -/
structure Rw where
  key : ByteArray
  val : Int
  told : Bool
/-- A call in hand: the next step (0: none in hand), found, place in the history. -/
structure Hn where
  at_ : Nat
  found : Bool
  call : Nat
def hn0 : Hn := ⟨0, false, 0⟩
structure Sh where
  locks : List Int
  rows : List Rw
  next : List Nat
  hands : List Hn
  calls : List Cl
  steps : Nat
/-- What does not change: the shards, the work, a name's shard. -/
structure Wk where
  work : List (List Ak)
  shards : Nat
  of : ByteArray → Nat
variable (K : Wk) (S : Sh)
def Wk.own (w : Nat) : List Ak := K.work.getD w []
def Sh.ask (w : Nat) : Ak := (K.own w).getD (S.next.getD w 0) ak0
def Sh.hand (w : Nat) : Hn := S.hands.getD w hn0
def Sh.doneN (w : Nat) : Bool := decide (K.work.length ≤ w) || decide (S.next.getD w 0 = (K.own w).length)
def rowAt (l : List Rw) (k : ByteArray) : Option Rw := l.find? (fun r => decide (r.key = k))
def Sh.get (k : ByteArray) : Option Int := (rowAt S.rows k).map Rw.val
def Sh.toldN (k : ByteArray) : Bool := match rowAt S.rows k with | some r => r.told | none => false
def Sh.lockOf (w : Nat) : Int := S.locks.getD (K.of (S.ask K w).key) (-1)
def Sh.waitsN (w : Nat) : Bool :=
  if S.doneN K w then false
  else match (S.hand w).at_ with
    | 0 => decide (0 ≤ S.lockOf K w) && decide (S.lockOf K w ≠ w)
    | 5 => !S.toldN (S.ask K w).key
    | _ => false
def Sh.canN (w : Nat) : Bool := !S.doneN K w && !S.waitsN K w
/-- The call in hand ends with this step. -/
def Sh.endN (w : Nat) (n e : Int) : Sh :=
  { S with
    calls := S.calls.set (S.hand w).call { cAt S.calls (S.hand w).call with «to» := S.steps + 1, ans := n, err := e },
    next := S.next.set w (S.next.getD w 0 + 1),
    hands := S.hands.set w hn0 }
def Sh.setH (w : Nat) (h : Hn) : Sh := { S with hands := S.hands.set w h }
def Sh.setL (w : Nat) (o : Int) : Sh := { S with locks := S.locks.set (K.of (S.ask K w).key) o }
/-- What a call comes to when its shard is unlocked: none, if it awaits on. -/
def endOf2 (a : Ak) (found : Bool) (v : Option Int) : Option (Int × Int) :=
  if a.kind = 1 then some (0, if found then 5 else 0)
  else if found then some (v.getD 0, 0)
  else if a.kind = 2 then some (0, 4)
  else none
def Sh.body (w : Nat) : Sh :=
  let a := S.ask K w
  let h := S.hand w
  match h.at_ with
  | 0 => (Sh.setL K { S with calls := S.calls ++ [⟨w, a.kind, a.key, a.value, S.steps, -1, 0, 0⟩] } w w).setH w ⟨1, false, S.calls.length⟩
  | 1 => S.setH w ⟨if a.kind = 1 ∧ S.get a.key = none then 2 else 4, (S.get a.key).isSome, h.call⟩
  | 2 => ({ S with rows := S.rows ++ [⟨a.key, a.value, false⟩] } : Sh).setH w { h with at_ := 3 }
  | 3 => ({ S with rows := S.rows.map (fun r => if r.key = a.key then ⟨r.key, r.val, true⟩ else r) } : Sh).setH w { h with at_ := 4 }
  | 4 => match endOf2 a h.found (S.get a.key) with
    | some (n, e) => (S.setL K w (-1)).endN w n e
    | none => (S.setL K w (-1)).setH w { h with at_ := 5 }
  | _ => S.endN w ((S.get a.key).getD 0) 0
def Sh.stepN (w : Nat) : Sh := if S.canN K w then { S.body K w with steps := S.steps + 1 } else S
def Sh.start : Sh := ⟨List.replicate K.shards (-1), [], List.replicate K.work.length 0, List.replicate K.work.length hn0, [], 0⟩
end Go.Proofs.Ytabkmdhkfbcldaa
namespace Go.Proofs.Ytabkmdhkfbcldaa
open Go.RowKit

/-- What is owned lies on through a call that leaves all that lay. -/
theorem own_below {w w' : World} {base : Nat} {e : TypeId} {size : Nat} {v : Value} {n : Nat} {xs : List Value} (h : w.ownsRow base e size v n xs) (hb : Below w.heap.size w w') : w'.ownsRow base e size v n xs := by
  refine ⟨h.1, ?_⟩
  rcases h.2 with hn | ⟨g, cap, cur, hv, hge, hg, rest⟩
  · exact .inl hn
  · exact .inr ⟨g, cap, cur, hv, hge, (hb.block g (Array.getElem?_eq_some_iff.1 hg).1).trans hg, rest⟩

/-- The same at another bound. -/
theorem own_belowB {B : Nat} {w w' : World} {base : Nat} {e : TypeId} {size : Nat} {v : Value} {n : Nat} {xs : List Value} (h : w.ownsRow base e size v n xs) (hb : Below B w w') (hv : ∀ g, v.ownBlock = some g → g < B) : w'.ownsRow base e size v n xs := by
  refine ⟨h.1, ?_⟩
  rcases h.2 with hn | ⟨g, cap, cur, rfl, hge, hg, rest⟩
  · exact .inl hn
  · exact .inr ⟨g, cap, cur, rfl, hge, (hb.block g (hv g rfl)).trans hg, rest⟩

/-- The border may be set lower. -/
theorem own_lower {w : World} {base base' : Nat} {e : TypeId} {size : Nat} {v : Value} {n : Nat} {xs : List Value} (h : w.ownsRow base e size v n xs) (hb : base' ≤ base) : w.ownsRow base' e size v n xs := by
  refine ⟨h.1, ?_⟩
  rcases h.2 with hn | ⟨g, cap, cur, hv, hge, rest⟩
  · exact .inl hn
  · exact .inr ⟨g, cap, cur, hv, by omega, rest⟩

/-- The cells of an owned row, and that none is frozen. -/
theorem own_cell {w : World} {base : Nat} {e : TypeId} {size g n c : Nat} {xs : List Value} (h : w.ownsRow base e size (.slice (some ⟨g, 0, none⟩) n c) n xs) (i : Nat) (hi : i < xs.length) :
    w.cell? ⟨g, i, none⟩ = some xs[i] ∧ w.frozen? ⟨g, i, none⟩ = false := by
  refine ⟨?_, ?_⟩
  · have := h.cells (g := g) rfl i xs[i] (by simp [hi])
    rwa [addr_add, Nat.zero_add] at this
  · rcases h.2 with ⟨h0, _⟩ | ⟨g', cap', cur, hv, hg, hh, _⟩
    · cases h0
    · cases hv; exact frozen_of_row _ _ _ _ _ hh

theorem list_take_set {α : Type} (l : List α) (n i : Nat) (x : α) : (l.set i x).take n = (l.take n).set i x := by
  apply List.ext_getElem?
  intro j
  simp only [List.getElem?_take, List.getElem?_set, List.length_take]
  by_cases hj : j < n
  · by_cases hij : i = j
    · subst hij
      by_cases hl : i < l.length
      · simp [hj, hl, show i < min n l.length by omega]
      · simp [hj, hl, show ¬ i < min n l.length by omega]
    · simp [hj, hij]
  · by_cases hij : i = j
    · subst hij; simp [hj]; omega
    · simp [hj, hij]

/-- A store into an owned row. -/
theorem own_set {w : World} {base : Nat} {e : TypeId} {size g n c : Nat} {xs : List Value} (h : w.ownsRow base e size (.slice (some ⟨g, 0, none⟩) n c) n xs) (i : Nat) (u : Value) :
    (w.setCell ⟨g, i, none⟩ u).ownsRow base e size (.slice (some ⟨g, 0, none⟩) n c) n (xs.set i u) := by
  refine ⟨by rw [List.length_set]; exact h.1, ?_⟩
  rcases h.2 with ⟨h0, _⟩ | ⟨g', cap', cur, hv, hge, hh, hn, hcap, hsz, htake⟩
  · cases h0
  · cases hv
    refine .inr ⟨g, c, cur.setIfInBounds i u, rfl, hge, heap_setCell_same w g i cur e u hh, hn, hcap, by simpa using hsz, ?_⟩
    rw [Array.toList_setIfInBounds, list_take_set, htake]

/-- An owned row of more than no cells lies in a block. -/
theorem own_block {w : World} {base : Nat} {e : TypeId} {size : Nat} {v : Value} {n : Nat} {xs : List Value} (h : w.ownsRow base e size v n xs) (hn : 0 < n) : ∃ g c, v = .slice (some ⟨g, 0, none⟩) n c ∧ base ≤ g ∧ g < w.heap.size ∧ n ≤ c ∧ c ≤ maxLen := by
  rcases h.2 with ⟨_, h0⟩ | ⟨g, c, cur, hv, hge, hh, hnc, hcm, _⟩
  · omega
  · exact ⟨g, c, hv, hge, (Array.getElem?_eq_some_iff.1 hh).1, hnc, hcm⟩

/-- A store into a block leaves rows in other blocks. -/
theorem Row.set_other {w : World} {p : Option Addr} {cs : List Value} (h : Row w p cs) (a : Addr) (u : Value) (hne : ∀ q, p = some q → q.block ≠ a.block) : Row (w.setCell a u) p cs := by
  intro hcs
  obtain ⟨b, o, hp, hc⟩ := h hcs
  refine ⟨b, o, hp, fun i hi => ?_⟩
  rw [World.cell?_setCell_other]
  · exact hc i hi
  · intro e
    have := congrArg Addr.block e
    exact hne _ hp this.symm

/-- What is owned lies on where another block is stored into. -/
theorem own_setO {w : World} {base : Nat} {e : TypeId} {size : Nat} {v : Value} {n : Nat} {xs : List Value} (h : w.ownsRow base e size v n xs) (a : Addr) (u : Value) (hne : ∀ g, v.ownBlock = some g → g ≠ a.block) : (w.setCell a u).ownsRow base e size v n xs := by
  refine ⟨h.1, ?_⟩
  rcases h.2 with hn | ⟨g, cap, cur, rfl, hge, hg, rest⟩
  · exact .inl hn
  · exact .inr ⟨g, cap, cur, rfl, hge, (Below.heap_setCell w a u g (hne g rfl)).trans hg, rest⟩
theorem grown_frozen {w w' : World} {row : Option Nat} (hg : w.grownBy w' row) (a : Addr) (hlt : a.block < w.heap.size) (hne : some a.block ≠ row) : w'.frozen? a = w.frozen? a := World.frozen?_of_block (hg.block a.block hlt hne)

/-- A store into a newer block leaves rows as they lay. -/
theorem Row.set_lt {w0 w : World} {p : Option Addr} {cs : List Value} (h : Row w p cs) (h0 : Row w0 p cs) (a : Addr) (u : Value) (ha : w0.heap.size ≤ a.block) : Row (w.setCell a u) p cs := by
  intro hcs
  obtain ⟨b, o, rfl, hc⟩ := h hcs
  obtain ⟨b', o', e, hc'⟩ := h0 hcs
  cases e
  have hl : b < w0.heap.size := World.block_lt_of_cell? w0 _ (hc' 0 (by cases cs with | nil => exact absurd rfl hcs | cons a l => simp))
  refine ⟨b, o, rfl, fun i hi => ?_⟩
  rw [World.cell?_setCell_other]
  · exact hc i hi
  · intro e
    have := congrArg Addr.block e
    simp at this
    omega

/-- Zeros of one cell. -/
theorem made_one (z : Value) (n : Nat) (hz : z.cells = #[z]) : (madeCells z.cells (n * 1)).toList = List.replicate n z := by
  rw [hz]
  simp only [madeCells, Nat.mul_one]
  apply List.ext_getElem
  · simp
  · intro i h1 h2
    simp [Nat.mod_one]

/-- A list whose first k elements are f's, the rest z. -/
def fillTo {α : Type} (f : Nat → α) (z : α) (n k : Nat) : List α := (List.range n).map (fun j => if j < k then f j else z)
theorem fill_len {α : Type} (f : Nat → α) (z : α) (n k : Nat) : (fillTo f z n k).length = n := by simp [fillTo]
theorem fill_get {α : Type} (f : Nat → α) (z : α) (n k j : Nat) (h : j < n) : (fillTo f z n k)[j]'(by simp [fillTo, h]) = if j < k then f j else z := by simp [fillTo]
theorem fill_zero {α : Type} (f : Nat → α) (z : α) (n : Nat) : fillTo f z n 0 = List.replicate n z := by
  apply List.ext_getElem
  · simp [fillTo]
  · intro i h1 h2; simp [fillTo]
theorem fill_full {α : Type} (f : Nat → α) (z : α) (n : Nat) : fillTo f z n n = (List.range n).map f := by
  apply List.ext_getElem
  · simp [fillTo]
  · intro i h1 h2; simp [fillTo] at h1 ⊢; omega
theorem fill_set {α : Type} (f : Nat → α) (z : α) (n k : Nat) : (fillTo f z n k).set k (f k) = fillTo f z n (k + 1) := by
  apply List.ext_getElem
  · simp [fillTo]
  · intro i h1 h2
    simp only [fillTo, List.length_map, List.length_range] at h2
    rw [List.getElem_set]
    simp only [fillTo, List.getElem_map, List.getElem_range]
    by_cases hk : k = i
    · subst hk; simp
    · by_cases h3 : i < k
      · rw [if_neg hk, if_pos h3, if_pos (by omega)]
      · rw [if_neg hk, if_neg h3, if_neg (by omega)]
theorem fill_skip {α : Type} (f : Nat → α) (z : α) (n k : Nat) (h : f k = z) : fillTo f z n k = fillTo f z n (k + 1) := by
  apply List.ext_getElem
  · simp [fillTo]
  · intro i h1 h2
    simp only [fillTo, List.getElem_map, List.getElem_range]
    by_cases h3 : i < k
    · rw [if_pos h3, if_pos (by omega)]
    · by_cases hk : k = i
      · subst hk; rw [if_neg (by omega), if_pos (by omega), h]
      · rw [if_neg h3, if_neg (by omega)]
end Go.Proofs.Ytabkmdhkfbcldaa
namespace Go.Proofs.Ytabkmdhkfbcldaa
open Go.RowKit
variable {P : Program} {w : World} {t e : TypeId} {size bytes : Nat} {z : Value} {ops : Array Oper} {rest : List Oper} {o : Oper} {a : Act} {Q : Exit → Act → World → Prop}

/-- 'append(v, x...)', the one operation: v the call's own, x any row. -/
theorem operIn_app {K : Act → World → Prop} {F : Fence} {fn : Nat} (E : Elem P t e size bytes z) (s x : Operand)
    (ho : o.op = .call { callee := .builtin .append, args := #[s, x], argTypes := #[t, t] })
    (base : Nat) (v : Value) (n : Nat) (xs : List Value) (hs : a.eval s = v) (hown : w.ownsRow base e size v n xs)
    (p : Option Addr) (m c : Nat) (news : List Value) (hx : a.eval x = .slice p m c) (hl : news.length = m * size) (hnil : p = none → c = 0) (hrow : Row w p news) (h1 : ∀ u ∈ news, u.oneCell' = true)
    (h63 : n + m ≤ maxLen) (hbytes : (n + m) * bytes ≤ 140737488355328) (hbase : base ≤ w.heap.size)
    (h : ∀ v' w', w'.ownsRow base e size v' (n + m) (xs ++ news) → w.grownBy w' v.ownBlock → Stayed w v v' → K (a.put o.dst v') w') : Oper.wpIn F fn P o a w K Q := by
  obtain ⟨i, hi, hz, hsz, hby⟩ := E.info
  cases p with
  | none =>
    have hc : c = 0 := hnil rfl
    subst hc
    have hn : news = [] := by
      apply Classical.byContradiction
      intro hne
      obtain ⟨b, o, e1, _⟩ := hrow hne
      cases e1
    subst hn
    have hm : m = 0 := by
      have := E.pos
      have hl' : 0 = m * size := hl
      rcases Nat.mul_eq_zero.1 hl'.symm with h0 | h0
      · exact h0
      · omega
    subst hm
    have hr := run_append_owned_none (P := P) (w := w) base t o.type e i size E.desc hi v n xs hown
    unfold Oper.wpIn
    refine ⟨?_, ?_⟩
    · simp [Oper.about, ho, resolve, Target.leads, Sem.run_pure]
    · rw [Oper.semAt_plain F _ _ (by rw [ho]; intro c hc'; cases hc')]
      simp [execOp, ho, resolve, invoke, builtin, hs, hx, hr, Result.andThen]
      exact (h v w (by simpa using hown) (World.grownBy.refl _ _) (fun g hg => .inl hg))
  | some ad =>
    have hnews : ∀ j u, news[j]? = some u → w.cell? (ad.add j) = some u := by
      intro j u hj
      have hjl : j < news.length := (List.getElem?_eq_some_iff.1 hj).1
      obtain ⟨b, o, e1, hc⟩ := hrow (by intro e1; rw [e1] at hjl; simp at hjl)
      cases e1
      rw [addr_add, hc j hjl]
      rw [List.getElem?_eq_getElem hjl] at hj
      exact hj
    obtain ⟨v', w', hr, h2, h3, _⟩ := run_append_own (P := P) w base t o.type e i z size bytes E.desc hi hz hsz hby E.cells E.pos v n xs hown ad m c news hl hnews h1 h63 hbytes hbase
    have h4 := app_stayed E o.type base v n xs hown ad m c news hl hnews h1 h63 hbytes hr
    unfold Oper.wpIn
    refine ⟨?_, ?_⟩
    · simp [Oper.about, ho, resolve, Target.leads, Sem.run_pure]
    · rw [Oper.semAt_plain F _ _ (by rw [ho]; intro c hc'; cases hc')]
      simp [execOp, ho, resolve, invoke, builtin, hs, hx, hr, Result.andThen]
      exact (h v' w' h2 h3 h4)

/-- The same for the walk. -/
theorem wpListIn_app {F : Fence} {fn : Nat} (E : Elem P t e size bytes z) (hgd : o.guard = none) (s x : Operand)
    (ho : o.op = .call { callee := .builtin .append, args := #[s, x], argTypes := #[t, t] })
    (base : Nat) (v : Value) (n : Nat) (xs : List Value) (hs : a.eval s = v) (hown : w.ownsRow base e size v n xs)
    (p : Option Addr) (m c : Nat) (news : List Value) (hx : a.eval x = .slice p m c) (hl : news.length = m * size) (hnil : p = none → c = 0) (hrow : Row w p news) (h1 : ∀ u ∈ news, u.oneCell' = true)
    (h63 : n + m ≤ maxLen) (hbytes : (n + m) * bytes ≤ 140737488355328) (hbase : base ≤ w.heap.size)
    (h : ∀ v' w', w'.ownsRow base e size v' (n + m) (xs ++ news) → w.grownBy w' v.ownBlock → Stayed w v v' → wpListIn F fn P ops Q rest (a.put o.dst v') w') : wpListIn F fn P ops Q (o :: rest) a w :=
  wpListIn_plain hgd fun K hK => operIn_app E s x ho base v n xs hs hown p m c news hx hl hnil hrow h1 h63 hbytes hbase (fun v' w' a b c => hK _ _ (h v' w' a b c))

/-- 'make([]T, n)' at the operation, within a fence. -/
theorem wpListIn_mkfull {F : Fence} {fn : Nat} (E : Elem P t e size bytes z) (hgd : o.guard = none) (l c : Operand) (ho : o.op = .makeSlice t l c) (base : Nat) (kl kc : IntKind) (L C : Int) (n : Nat) (hl : a.eval l = .int kl L) (hc : a.eval c = .int kc C) (hL : L = (n : Int)) (hC : C = (n : Int))
    (hb : bytes * n ≤ 281474976710656) (hm : n ≤ maxLen) (hbase : base ≤ w.heap.size)
    (h : ∀ w', w'.ownsRow base e size (.slice (some ⟨w.heap.size, 0, none⟩) n n) n (madeCells z.cells (n * size)).toList → w.grownBy w' none → wpListIn F fn P ops Q rest (a.put o.dst (.slice (some ⟨w.heap.size, 0, none⟩) n n)) w') : wpListIn F fn P ops Q (o :: rest) a w := by
  obtain ⟨i, hi, hz, hsz, hby⟩ := E.info
  refine wpListIn_plain hgd fun K hK' => ?_
  obtain ⟨w', hrun, r1, r2⟩ := run_make_full (P := P) w base t e i z size E.desc hi hz hsz kl kc n (by rw [hby]; exact hb) hm hbase
  subst hL
  subst hC
  unfold Oper.wpIn
  refine ⟨?_, ?_⟩
  · simp [Oper.about, ho]
  · rw [Oper.semAt_plain F _ _ (by rw [ho]; intro c hc'; cases hc')]
    simp [execOp, ho, hl, hc, hrun, Result.andThen]
    exact hK' _ _ (h w' r1 r2)

/-- A nil slice that is owned has no room. -/
theorem own_nilcap {w : World} {base : Nat} {e : TypeId} {size : Nat} {p : Option Addr} {n m c : Nat} {xs : List Value} (h : w.ownsRow base e size (.slice p m c) n xs) : p = none → c = 0 := by
  intro hp
  subst hp
  rcases h.2 with ⟨hv, _⟩ | ⟨g, cap, cur, hv, _⟩
  · cases hv; rfl
  · cases hv
end Go.Proofs.Ytabkmdhkfbcldaa
