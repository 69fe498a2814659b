/-
 A history has a legal order just if each name has a row.
 The document's define: there is one that fits just if the name has a row.
 There is a legal order: name by name, and where a lookup tells what nobody put.
 Name by name: there is an order for all calls just if there is one for those of each name.
 Check: the calls of each worker, sorted, one behind the other, just if any two of one worker are.
 Calls that came one by one: they may be, and their order is legal.
 The table of names in plain words: workers, their calls in hand, one step.
 Owned rows whose elements are stored into; owned rows that a call leaves as they lay.
-/
import Derived.Test.YtabkmdhkfbcldaaGreatJL0
namespace Go.Proofs.YtabkmdhkfbcldaaGreat
variable {l : List Cl} {k : ByteArray} {sb sa r o : List Nat} {f : ByteArray → List Nat} {keys : List ByteArray}
def isK (l : List Cl) (k : ByteArray) (i : Nat) : Bool := decide ((cAt l i).key = k)
theorem ofKey_map (o : List Nat) : ofKey k (o.map (cAt l)) = (o.filter (isK l k)).map (cAt l) := by
 unfold ofKey
 rw [List.filter_map]
 rfl
theorem filter_flat : ∀ (keys : List ByteArray), keys.Nodup → (∀ j ∈ keys, ∀ i ∈ f j, (cAt l i).key = j) → (k ∈ keys → (keys.map f).flatten.filter (isK l k) = f k) ∧ (k ∉ keys → (keys.map f).flatten.filter (isK l k) = [])
 | [], _, _ => ⟨fun h => (by cases h), fun _ => rfl⟩
 | j :: keys, hn, hf => by
  have ih := filter_flat keys (List.nodup_cons.1 hn).2 (fun i hi => hf i (List.mem_cons_of_mem _ hi))
  simp only [List.map_cons, List.flatten_cons, List.filter_append]
  by_cases h : j = k
  ·subst h
   have e1 : (f j).filter (isK l j) = f j := List.filter_eq_self.2 (fun i hi => by unfold isK; exact decide_eq_true (hf j (List.mem_cons_self ..) i hi))
   have e2 : j ∉ keys := (List.nodup_cons.1 hn).1
   rw [ih.2 e2, e1, List.append_nil]
   exact ⟨fun _ => rfl, fun h => absurd (List.mem_cons_self ..) h⟩
  ·have e1 : (f j).filter (isK l k) = [] := List.filter_eq_nil_iff.2 (fun i hi => by
    have := hf j (List.mem_cons_self ..) i hi
    unfold isK
    simp [this, h])
   rw [e1, List.nil_append]
   have : k ∈ j :: keys ↔ k ∈ keys := by simp [Ne.symm h]
   exact ⟨fun hk => ih.1 (this.1 hk), fun hk => ih.2 (fun h => hk (this.2 h))⟩
theorem rows_legal (ho : ∀ i, i < l.length → OneC (cAt l i)) (hm : ∀ i, i < l.length → (cAt l i).to ≤ maxI) (hn : keys.Nodup) (hk : ∀ i, i < l.length → (cAt l i).key ∈ keys) (hf : ∀ k ∈ keys, RowOk l k (f k)) (n : Nat) (hlen : (keys.map f).flatten.length ≤ n) : Legal l (mergeN l n (keys.map f)) := by
 have hmem : ∀ i ∈ (keys.map f).flatten, i < l.length ∧ ∃ k ∈ keys, i ∈ f k ∧ (cAt l i).key = k := fun i hi => by
  obtain ⟨r, hr, hir⟩ := List.mem_flatten.1 hi
  obtain ⟨k, hkk, rfl⟩ := List.mem_map.1 hr
  have := (hf k hkk).lt i hir
  exact ⟨this.1, k, hkk, hir, this.2⟩
 obtain ⟨m1, m2, m3⟩ := merge_ok l n (keys.map f) hlen (fun r hr => by
  obtain ⟨k, hkk, rfl⟩ := List.mem_map.1 hr
  exact (hf k hkk).g) (fun i hi => ho i (hmem i hi).1) (fun i hi => hm i (hmem i hi).1)
 generalize mergeN l n (keys.map f) = o at m1 m2 m3
 have hkeys : ∀ j ∈ keys, ∀ i ∈ f j, (cAt l i).key = j := fun j hj i hi => ((hf j hj).lt i hi).2
 have hnf : (keys.map f).flatten.Nodup := by
  refine List.pairwise_flatten.2 ⟨fun r hr => ?_, ?_⟩
  ·obtain ⟨k, hkk, rfl⟩ := List.mem_map.1 hr
   exact (hf k hkk).nd
  ·rw [List.pairwise_map]
   refine List.Pairwise.imp_of_mem (fun {a b} ha hb hab x hx y hy e => ?_) hn
   subst e
   exact hab ((hkeys a ha x hx).symm.trans (hkeys b hb x hy))
 refine ⟨m1.nodup_iff.2 hnf, fun i hi => (hmem i (m1.mem_iff.1 hi)).1, fun i hi he => m1.mem_iff.2 (List.mem_flatten.2 ⟨f (cAt l i).key, List.mem_map.2 ⟨_, hk i hi, rfl⟩, (hf _ (hk i hi)).all i hi rfl he⟩), m2, (steps_keys _ _).2 fun k => ?_⟩
 rw [ofKey_map]
 by_cases hkk : k ∈ keys
 ·have e1 : (o.filter (isK l k)).Perm (f k) := by
   have := m1.filter (isK l k)
   rw [(filter_flat keys hn hkeys).1 hkk] at this
   exact this
  have e2 : (f k).Sublist (o.filter (isK l k)) := by
   have h1 := (m3 (f k) (List.mem_map.2 ⟨k, hkk, rfl⟩)).filter (isK l k)
   rwa [List.filter_eq_self.2 (fun i hi => by unfold isK; exact decide_eq_true (hkeys k hkk i hi))] at h1
  rw [← e2.eq_of_length e1.length_eq.symm]
  exact (hf k hkk).st
 ·have e1 : o.filter (isK l k) = [] := by
   have := m1.filter (isK l k)
   rw [(filter_flat keys hn hkeys).2 hkk] at this
   exact this.eq_nil
  rw [e1]; rfl
theorem run_nodef : ∀ (b o : List Cl), (∀ c ∈ b, c.kind ≠ 1) → runK none (b ++ o) = true → (∀ c ∈ b, OneC c → c.kind = 2 ∧ (c.to ≠ -1 → c.err = 4)) ∧ runK none o = true
 | [], o, _, h => ⟨fun c hc => (by cases hc), h⟩
 | c :: b, o, hk, h => by
  have h : (stepOk c none && runK (applyC c none).2.2.1 (b ++ o)) = true := h
  rw [Bool.and_eq_true] at h
  have hk1 := hk c (List.mem_cons_self ..)
  by_cases h2 : c.kind = 2
  ·have e : applyC c none = (0, 4, none, true) := by simp [applyC, h2]
   rw [e] at h
   have hs := h.1
   unfold stepOk at hs
   rw [e] at hs
   obtain ⟨i1, i2⟩ := run_nodef b o (fun d hd => hk d (List.mem_cons_of_mem _ hd)) h.2
   refine ⟨fun d hd hone => ?_, i2⟩
   rcases List.mem_cons.1 hd with e3 | hd
   ·subst e3
    refine ⟨h2, fun he => ?_⟩
    simp [he] at hs
    omega
   ·exact i1 d hd hone
  ·have e : applyC c none = (0, 0, none, false) := by simp [applyC, h2, hk1]
   have hs := h.1
   unfold stepOk at hs
   rw [e] at hs
   simp at hs
theorem run_def {v : Int} : ∀ (a : List Cl), runK (some v) a = true → ∀ c ∈ a, c.to ≠ -1 → (c.kind = 1 → c.err = 5) ∧ (c.kind ≠ 1 → c.err = 0 ∧ c.ans = v)
 | c :: a, h, d, hd, he => by
  have h : (stepOk c (some v) && runK (applyC c (some v)).2.2.1 a) = true := h
  rw [Bool.and_eq_true] at h
  by_cases hk : c.kind = 1
  ·have e : applyC c (some v) = (0, 5, some v, true) := by simp [applyC, hk]
   rw [e] at h
   rcases List.mem_cons.1 hd with e3 | hd
   ·subst e3
    have hs := h.1
    unfold stepOk at hs
    rw [e] at hs
    simp [he] at hs
    exact ⟨fun _ => by omega, fun h => absurd hk h⟩
   ·exact run_def a h.2 d hd he
  ·have e : applyC c (some v) = (v, 0, some v, true) := by simp [applyC, hk]
   rw [e] at h
   rcases List.mem_cons.1 hd with e3 | hd
   ·subst e3
    have hs := h.1
    unfold stepOk at hs
    rw [e] at hs
    simp [he] at hs
    exact ⟨fun h => absurd h hk, fun _ => by omega⟩
   ·exact run_def a h.2 d hd he
theorem nodup_one {x : Nat} : ∀ {q : List Nat}, q.Nodup → (∀ i ∈ q, i = x) → x ∈ q → q = [x]
 | [], _, _, h => by cases h
 | [a], _, h, _ => by rw [h a (List.mem_singleton_self a)]
 | a :: b :: q, hn, h, _ => by
  have h1 := h a (List.mem_cons_self ..)
  have h2 := h b (by simp)
  have := (List.nodup_cons.1 hn).1
  rw [h1, h2] at this
  simp at this
theorem legal_row (hl : Legal l o) (ho : ∀ i, i < l.length → OneC (cAt l i)) (H : Parts l k sb sa) : ∃ r, RowIs l k sb sa r := by
 have hst := (steps_keys _ _).1 hl.st k
 rw [ofKey_map] at hst
 obtain ⟨q, hq⟩ : ∃ q, q = o.filter (isK l k) := ⟨_, rfl⟩
 have hqm : ∀ i, i ∈ q ↔ i ∈ o ∧ (cAt l i).key = k := fun i => by rw [hq]; simp [isK]
 have hrt : RT l q := by rw [hq]; exact hl.rt.filter _
 have hin : ∀ i, i < l.length → (cAt l i).key = k → (cAt l i).to ≠ -1 → i ∈ q := fun i h1 h2 h3 => (hqm i).2 ⟨hl.all i h1 h3, h2⟩
 have hone : ∀ i ∈ q, OneC (cAt l i) := fun i hi => ho i (hl.lt i ((hqm i).1 hi).1)
 rw [← hq] at hst
 clear hq
 have hsp : q = q.takeWhile (fun i => decide ((cAt l i).kind ≠ 1)) ++ q.dropWhile (fun i => decide ((cAt l i).kind ≠ 1)) := (List.takeWhile_append_dropWhile).symm
 obtain ⟨qb, hqb⟩ : ∃ qb, qb = q.takeWhile (fun i => decide ((cAt l i).kind ≠ 1)) := ⟨_, rfl⟩
 have hbk : ∀ i ∈ qb, (cAt l i).kind ≠ 1 := fun i hi => by
  rw [hqb] at hi
  have := List.all_eq_true.1 (List.all_takeWhile (p := fun i => decide ((cAt l i).kind ≠ 1)) (l := q)) i hi
  simpa using this
 have hdw : ∀ p qa, q.dropWhile (fun i => decide ((cAt l i).kind ≠ 1)) = p :: qa → (cAt l p).kind = 1 := fun p qa e => by
  have := List.head?_dropWhile_not (fun i => decide ((cAt l i).kind ≠ 1)) q
  rw [e] at this
  simpa using this
 rw [← hqb] at hsp
 cases hd : q.dropWhile (fun i => decide ((cAt l i).kind ≠ 1)) with
 | nil =>
  rw [hd, List.append_nil] at hsp
  have h1 := run_nodef (q.map (cAt l)) [] (fun c hc => by
   obtain ⟨i, hi, rfl⟩ := List.mem_map.1 hc
   rw [hsp] at hi
   exact hbk i hi) (by rw [List.append_nil]; exact hst)
  refine ⟨sb, .none ?_ ?_⟩
  ·refine List.eq_nil_iff_forall_not_mem.2 fun i hi => ?_
   obtain ⟨g1, g2⟩ := mem_idx.1 hi
   unfold isPut okDef at g2
   simp only [Bool.and_eq_true, decide_eq_true_eq] at g2
   have := hin i g1 g2.1.1 g2.1.2
   rw [hsp] at this
   exact hbk i this g2.2.1
  ·refine List.eq_nil_iff_forall_not_mem.2 fun i hi => ?_
   obtain ⟨g1, g2⟩ := mem_idx.1 hi
   have g3 := (aft_iff (ho i g1)).1 g2
   have hiq := hin i g1 g3.1 g3.2.1
   have h2 := h1.1 _ (List.mem_map.2 ⟨i, hiq, rfl⟩) (ho i g1)
   have := h2.2 g3.2.1
   omega
 | cons p qa =>
  have hpk := hdw p qa hd
  rw [hd] at hsp
  have hpq : p ∈ q := by rw [hsp]; simp
  have hpo := hone p hpq
  have hpkey := ((hqm p).1 hpq).2
  have hpl := hl.lt p ((hqm p).1 hpq).1
  rw [hsp, List.map_append, List.map_cons] at hst
  obtain ⟨h1, h2⟩ := run_nodef _ _ (fun c hc => by
   obtain ⟨i, hi, rfl⟩ := List.mem_map.1 hc
   exact hbk i hi) hst
  have h2 : (stepOk (cAt l p) none && runK (applyC (cAt l p) none).2.2.1 (qa.map (cAt l))) = true := h2
  rw [Bool.and_eq_true] at h2
  have e : applyC (cAt l p) none = (0, 0, some (cAt l p).value, true) := by simp [applyC, hpk]
  rw [e] at h2
  have hs := h2.1
  unfold stepOk at hs
  rw [e] at hs
  have h3 := run_def _ h2.2
  have hrt2 := hrt
  rw [hsp] at hrt2
  obtain ⟨_, hr2, hr3⟩ := List.pairwise_append.1 hrt2
  obtain ⟨hr4, _⟩ := List.pairwise_cons.1 hr2
  have hcase : ∀ i ∈ q, i ∈ qb ∨ i = p ∨ i ∈ qa := fun i hi => by rw [hsp] at hi; simpa using hi
  have hperr : (cAt l p).err = 0 := by
   by_cases ht : (cAt l p).to = -1
   ·exact (hpo.o ht).2
   ·simp [ht] at hs; omega
  have hput : ∀ i ∈ idxOf l (isPut k), i = p := fun i hi => by
   obtain ⟨g1, g2⟩ := mem_idx.1 hi
   unfold isPut okDef at g2
   simp only [Bool.and_eq_true, decide_eq_true_eq] at g2
   rcases hcase i (hin i g1 g2.1.1 g2.1.2) with h | h | h
   ·exact absurd g2.2.1 (hbk i h)
   ·exact h
   ·have := (h3 _ (List.mem_map.2 ⟨i, h, rfl⟩) g2.1.2).1 g2.2.1; omega
  have hbef : ∀ i ∈ sb, i ∈ qb := fun i hi => by
   obtain ⟨g1, g2, g3⟩ := H.bef ho i hi
   have g4 := (bef_iff g2).1 g3
   rcases hcase i (hin i g1 g4.1 g4.2.1) with h | h | h
   ·exact h
   ·subst h; omega
   ·have := (h3 _ (List.mem_map.2 ⟨i, h, rfl⟩) g4.2.1).2 (by omega); omega
  have haft : ∀ i ∈ sa, i ∈ qa := fun i hi => by
   obtain ⟨g1, g2, g3⟩ := H.aft ho i hi
   have g4 := (aft_iff g2).1 g3
   rcases hcase i (hin i g1 g4.1 g4.2.1) with h | h | h
   ·have h5 := h1 _ (List.mem_map.2 ⟨i, h, rfl⟩) g2
    have := h5.2 g4.2.1
    omega
   ·subst h; omega
   ·exact h
  have hfit : FitsC (sb.map (cAt l)) (sa.map (cAt l)) (cAt l p) := by
   refine ⟨fun c hc => ?_, fun c hc => ?_⟩
   ·obtain ⟨i, hi, rfl⟩ := List.mem_map.1 hc
    refine ⟨hr3 i (hbef i hi) p (by simp), fun d hd => ?_⟩
    obtain ⟨j, hj, rfl⟩ := List.mem_map.1 hd
    exact hr3 i (hbef i hi) j (by simp [haft j hj])
   ·obtain ⟨j, hj, rfl⟩ := List.mem_map.1 hc
    obtain ⟨g1, g2, g3⟩ := H.aft ho j hj
    have g4 := (aft_iff g2).1 g3
    refine ⟨hr4 j (haft j hj), ?_⟩
    by_cases hk1 : (cAt l j).kind = 1
    ·exact .inl hk1
    ·exact .inr ((h3 _ (List.mem_map.2 ⟨j, haft j hj, rfl⟩) g4.2.1).2 hk1).2
  by_cases ht : (cAt l p).to = -1
  ·have hp0 : idxOf l (isPut k) = [] := by
    refine List.eq_nil_iff_forall_not_mem.2 fun i hi => ?_
    have e := hput i hi
    obtain ⟨g1, g2⟩ := mem_idx.1 hi
    unfold isPut okDef at g2
    simp only [Bool.and_eq_true, decide_eq_true_eq] at g2
    rw [e] at g2
    exact g2.1.2 ht
   by_cases ha0 : idxOf l (isAft k) = []
   ·exact ⟨sb, .none hp0 ha0⟩
   ·exact ⟨_, .may p hp0 ha0 (mem_idx.2 ⟨hpl, by unfold isMay; simp [hpkey, ht, hpk]⟩) hfit⟩
  ·have hpin : p ∈ idxOf l (isPut k) := mem_idx.2 ⟨hpl, by unfold isPut okDef; simp [hpkey, ht, hpk, hperr]⟩
   exact ⟨_, .sure p (nodup_one (idx_nodup _ _) hput hpin) hfit⟩
end Go.Proofs.YtabkmdhkfbcldaaGreat
namespace Go.Proofs.YtabkmdhkfbcldaaGreat
variable {l : List Cl} {k : ByteArray} {sb sa r o : List Nat}
def bad (d v : Int) (c : Cl) : Prop := d < 0 ∨ (c.kind = 1 ∧ c.err = 0) ∨ (c.kind ≠ 1 ∧ c.ans ≠ v)
theorem ended_iff {c : Cl} (h : OneC c) : c.to ≠ -1 ↔ 0 ≤ c.to := by
 have h1 := h.t
 have h2 := h.f
 constructor
 ·intro h3; omega
 ·intro h3; omega
end Go.Proofs.YtabkmdhkfbcldaaGreat
namespace Go.Proofs.YtabkmdhkfbcldaaGreat
variable {l : List Cl} {k : ByteArray} {sb sa r o : List Nat}
def Lin (l : List Cl) : Prop := ∃ o, Legal l o
end Go.Proofs.YtabkmdhkfbcldaaGreat
namespace Go.Proofs.YtabkmdhkfbcldaaGreat
variable {l : List Cl} {k : ByteArray} {r o : List Nat}
theorem nodup_len : ∀ (n : Nat) (o : List Nat), o.Nodup → (∀ i ∈ o, i < n) → o.length ≤ n
 | 0, o, _, h => by
  cases o with
  | nil => exact Nat.le_refl _
  | cons a o => exact absurd (h a (List.mem_cons_self ..)) (by omega)
 | n + 1, o, hn, h => by
  by_cases hm : n ∈ o
  ·have h1 := nodup_len n (o.erase n) (hn.erase n) (fun i hi => by
    have h2 := h i (List.mem_of_mem_erase hi)
    have h3 : i ≠ n := fun e => by subst e; exact (List.Nodup.not_mem_erase hn) hi
    omega)
   rw [List.length_erase_of_mem hm] at h1
   omega
  ·have h1 := nodup_len n o hn (fun i hi => by
    have h2 := h i hi
    have h3 : i ≠ n := fun e => by subst e; exact hm hi
    omega)
   omega
end Go.Proofs.YtabkmdhkfbcldaaGreat
namespace Go.Proofs.YtabkmdhkfbcldaaGreat
def either (a b : Cl) : Prop := aheadC a b = true ∨ aheadC b a = true
def nearOk (own : List Cl) : Prop := ∀ i, i + 1 < own.length → aheadC (cAt own i) (cAt own (i + 1)) = true
theorem near_cons {a b : Cl} {r : List Cl} : nearOk (a :: b :: r) ↔ aheadC a b = true ∧ nearOk (b :: r) := by
 constructor
 ·intro h
  exact ⟨h 0 (by simp), fun i hi => h (i + 1) (by simp at hi ⊢; omega)⟩
 ·rintro ⟨h1, h2⟩ i hi
  cases i with
  | zero => exact h1
  | succ i => exact h2 i (by simp at hi ⊢; omega)
theorem near_all : ∀ (r : List Cl) (a : Cl), (∀ c ∈ a :: r, OneC c) → nearOk (a :: r) → ∀ b ∈ r, aheadC a b = true
 | [], _, _, _, b, hb => absurd hb (by simp)
 | c :: r, a, ho, h, b, hb => by
  obtain ⟨h1, h2⟩ := near_cons.1 h
  rcases List.mem_cons.1 hb with e | hb
  ·rw [e]; exact h1
  ·have h3 := near_all r c (fun d hd => ho d (List.mem_cons_of_mem _ hd)) h2 b hb
   have h4 := ho c (by simp)
   unfold aheadC at h1 h3 ⊢
   simp only [Bool.and_eq_true, decide_eq_true_eq] at h1 h3 ⊢
   have := h4.ended h3.1
   exact ⟨h1.1, by omega⟩
theorem near_pair : ∀ (own : List Cl), (∀ c ∈ own, OneC c) → own.Pairwise (fun a b => a.fr ≤ b.fr) → (nearOk own ↔ own.Pairwise either)
 | [], _, _ => ⟨fun _ => List.Pairwise.nil, fun _ i hi => by simp at hi⟩
 | [a], _, _ => ⟨fun _ => List.pairwise_singleton _ _, fun _ i hi => by simp at hi⟩
 | a :: b :: r, ho, hs => by
  have hs2 := List.pairwise_cons.1 hs
  have ih := near_pair (b :: r) (fun c hc => ho c (List.mem_cons_of_mem _ hc)) hs2.2
  constructor
  ·intro h
   exact List.pairwise_cons.2 ⟨fun c hc => .inl (near_all (b :: r) a ho h c hc), ih.1 (near_cons.1 h).2⟩
  ·intro h
   obtain ⟨h1, h2⟩ := List.pairwise_cons.1 h
   refine near_cons.2 ⟨?_, ih.2 h2⟩
   rcases h1 b (List.mem_cons_self ..) with g | g
   ·exact g
   ·have h3 := hs2.1 b (List.mem_cons_self ..)
    have h4 := ho b (by simp)
    unfold aheadC at g
    simp only [Bool.and_eq_true, decide_eq_true_eq] at g
    have := h4.ended g.1
    omega
def Pairs (l : List Cl) : Prop := l.Pairwise (fun a b => a.w = b.w → either a b)
def ownW (l : List Cl) (w : Int) : List Cl := l.filter (fun c => decide (c.w = w))
theorem either_symm {a b : Cl} (h : either a b) : either b a := h.symm
theorem pairs_own {l : List Cl} (ho : ∀ c ∈ l, OneC c) : Pairs l ↔ ∀ w : Int, 0 ≤ w → w < 64 → (ownW l w).Pairwise either := by
 unfold Pairs ownW
 constructor
 ·intro h w _ _
  refine (List.Pairwise.filter _ h).imp_of_mem fun {a b} ha hb hab => ?_
  have h1 := (List.mem_filter.1 ha).2
  have h2 := (List.mem_filter.1 hb).2
  exact hab ((of_decide_eq_true h1).trans (of_decide_eq_true h2).symm)
 ·intro h
  rw [List.pairwise_iff_forall_sublist]
  intro a b hab e
  have ha : a ∈ l := hab.subset (by simp)
  have h1 := (ho a ha).w
  have h2 := h a.w h1.1 h1.2
  rw [List.pairwise_iff_forall_sublist] at h2
  refine h2 ?_
  have := hab.filter (fun c => decide (c.w = a.w))
  simpa [e] using this
theorem own_perm {l own : List Cl} (hp : own.Perm l) : own.Pairwise either ↔ l.Pairwise either := hp.pairwise_iff (fun h => either_symm h)
structure HistOk (l : List Cl) : Prop where
 one : ∀ c ∈ l, OneC c
 two : Pairs l
open Classical in
noncomputable def chkL (l : List Cl) : Int := if 4096 < l.length then 3 else if HistOk l then 0 else 260
theorem chk_ok {l : List Cl} (h : chkL l = 0) : l.length ≤ 4096 ∧ HistOk l := by
 unfold chkL at h
 by_cases h1 : 4096 < l.length
 ·rw [if_pos h1] at h; cases h
 ·rw [if_neg h1] at h
  by_cases h2 : HistOk l
  ·exact ⟨by omega, h2⟩
  ·rw [if_neg h2] at h; cases h
theorem chk_is {l : List Cl} (h1 : l.length ≤ 4096) (h2 : HistOk l) : chkL l = 0 := by
 unfold chkL
 rw [if_neg (by omega), if_pos h2]
theorem chk_bad {l : List Cl} (h1 : l.length ≤ 4096) (h2 : ¬ HistOk l) : chkL l = 260 := by
 unfold chkL
 rw [if_neg (by omega), if_neg h2]
theorem chk_long {l : List Cl} (h1 : 4096 < l.length) : chkL l = 3 := by
 unfold chkL
 rw [if_pos h1]
theorem HistOk.at {l : List Cl} (h : HistOk l) : ∀ i, i < l.length → OneC (cAt l i) := fun i hi => by
 have e : cAt l i = l[i] := by simp [cAt, List.getD_eq_getElem?_getD, hi]
 rw [e]; exact h.one _ (List.getElem_mem hi)
end Go.Proofs.YtabkmdhkfbcldaaGreat
namespace Go.Proofs.YtabkmdhkfbcldaaGreat
theorem setF_same {m : ByteArray → Option Int} {k : ByteArray} : setF m k (m k) = m := by
 funext j
 unfold setF
 by_cases e : j = k
 ·rw [if_pos e, e]
 ·rw [if_neg e]
def lastF (m : ByteArray → Option Int) : List Cl → (ByteArray → Option Int)
 | [] => m
 | c :: o => lastF (setF m c.key (applyC c (m c.key)).2.2.1) o
theorem steps_snoc : ∀ (o : List Cl) (c : Cl) (m : ByteArray → Option Int), stepsF m (o ++ [c]) = (stepsF m o && stepOk c (lastF m o c.key))
 | [], c, m => by show (stepOk c (m c.key) && true) = (true && stepOk c (m c.key)); simp
 | b :: o, c, m => by
  show (stepOk b (m b.key) && stepsF _ (o ++ [c])) = (stepOk b (m b.key) && stepsF _ o && _)
  rw [steps_snoc o c, Bool.and_assoc]; rfl
theorem last_snoc : ∀ (o : List Cl) (c : Cl) (m : ByteArray → Option Int), lastF m (o ++ [c]) = setF (lastF m o) c.key (applyC c (lastF m o c.key)).2.2.1
 | [], _, _ => rfl
 | b :: o, c, m => last_snoc o c _
end Go.Proofs.YtabkmdhkfbcldaaGreat
namespace Go.Proofs.YtabkmdhkfbcldaaGreat
structure Ak where
 kind : Int
 key : ByteArray
 value : Int
def ak0 : Ak := ⟨0, .empty, 0⟩
structure Rw where
 key : ByteArray
 val : Int
 told : Bool
structure Hn where
 at_ : Nat
 found : Bool
 call : Nat
def hn0 : Hn := ⟨0, false, 0⟩
structure Sh where
 locks : List Int
 rows : List Rw
 next : List Nat
 hands : List Hn
 calls : List Cl
 steps : Nat
structure Wk where
 work : List (List Ak)
 shards : Nat
 of : ByteArray → Nat
variable (K : Wk) (S : Sh)
def Wk.own (w : Nat) : List Ak := K.work.getD w []
def Sh.ask (w : Nat) : Ak := (K.own w).getD (S.next.getD w 0) ak0
def Sh.hand (w : Nat) : Hn := S.hands.getD w hn0
def Sh.doneN (w : Nat) : Bool := decide (K.work.length ≤ w) || decide (S.next.getD w 0 = (K.own w).length)
def rowAt (l : List Rw) (k : ByteArray) : Option Rw := l.find? (fun r => decide (r.key = k))
def Sh.get (k : ByteArray) : Option Int := (rowAt S.rows k).map Rw.val
def Sh.toldN (k : ByteArray) : Bool := match rowAt S.rows k with | some r => r.told | none => false
def Sh.lockOf (w : Nat) : Int := S.locks.getD (K.of (S.ask K w).key) (-1)
def Sh.waitsN (w : Nat) : Bool :=
 if S.doneN K w then false
 else match (S.hand w).at_ with
  | 0 => decide (0 ≤ S.lockOf K w) && decide (S.lockOf K w ≠ w)
  | 5 => !S.toldN (S.ask K w).key
  | _ => false
def Sh.canN (w : Nat) : Bool := !S.doneN K w && !S.waitsN K w
def Sh.endN (w : Nat) (n e : Int) : Sh :=
 { S with
  calls := S.calls.set (S.hand w).call { cAt S.calls (S.hand w).call with «to» := S.steps + 1, ans := n, err := e },
  next := S.next.set w (S.next.getD w 0 + 1),
  hands := S.hands.set w hn0 }
def Sh.setH (w : Nat) (h : Hn) : Sh := { S with hands := S.hands.set w h }
def Sh.setL (w : Nat) (o : Int) : Sh := { S with locks := S.locks.set (K.of (S.ask K w).key) o }
def endOf2 (a : Ak) (found : Bool) (v : Option Int) : Option (Int × Int) :=
 if a.kind = 1 then some (0, if found then 5 else 0)
 else if found then some (v.getD 0, 0)
 else if a.kind = 2 then some (0, 4)
 else none
def Sh.body (w : Nat) : Sh :=
 let a := S.ask K w
 let h := S.hand w
 match h.at_ with
 | 0 => (Sh.setL K { S with calls := S.calls ++ [⟨w, a.kind, a.key, a.value, S.steps, -1, 0, 0⟩] } w w).setH w ⟨1, false, S.calls.length⟩
 | 1 => S.setH w ⟨if a.kind = 1 ∧ S.get a.key = none then 2 else 4, (S.get a.key).isSome, h.call⟩
 | 2 => ({ S with rows := S.rows ++ [⟨a.key, a.value, false⟩] } : Sh).setH w { h with at_ := 3 }
 | 3 => ({ S with rows := S.rows.map (fun r => if r.key = a.key then ⟨r.key, r.val, true⟩ else r) } : Sh).setH w { h with at_ := 4 }
 | 4 => match endOf2 a h.found (S.get a.key) with
  | some (n, e) => (S.setL K w (-1)).endN w n e
  | none => (S.setL K w (-1)).setH w { h with at_ := 5 }
 | _ => S.endN w ((S.get a.key).getD 0) 0
def Sh.stepN (w : Nat) : Sh := if S.canN K w then { S.body K w with steps := S.steps + 1 } else S
def Sh.start : Sh := ⟨List.replicate K.shards (-1), [], List.replicate K.work.length 0, List.replicate K.work.length hn0, [], 0⟩
end Go.Proofs.YtabkmdhkfbcldaaGreat
namespace Go.Proofs.YtabkmdhkfbcldaaGreat
open Go.RowKit
theorem own_below {w w' : World} {base : Nat} {e : TypeId} {size : Nat} {v : Value} {n : Nat} {xs : List Value} (h : w.ownsRow base e size v n xs) (hb : Below w.heap.size w w') : w'.ownsRow base e size v n xs := by
 refine ⟨h.1, ?_⟩
 rcases h.2 with hn | ⟨g, cap, cur, hv, hge, hg, rest⟩
 ·exact .inl hn
 ·exact .inr ⟨g, cap, cur, hv, hge, (hb.block g (Array.getElem?_eq_some_iff.1 hg).1).trans hg, rest⟩
theorem own_lower {w : World} {base base' : Nat} {e : TypeId} {size : Nat} {v : Value} {n : Nat} {xs : List Value} (h : w.ownsRow base e size v n xs) (hb : base' ≤ base) : w.ownsRow base' e size v n xs := by
 refine ⟨h.1, ?_⟩
 rcases h.2 with hn | ⟨g, cap, cur, hv, hge, rest⟩
 ·exact .inl hn
 ·exact .inr ⟨g, cap, cur, hv, by omega, rest⟩
theorem own_cell {w : World} {base : Nat} {e : TypeId} {size g n c : Nat} {xs : List Value} (h : w.ownsRow base e size (.slice (some ⟨g, 0, none⟩) n c) n xs) (i : Nat) (hi : i < xs.length) :
  w.cell? ⟨g, i, none⟩ = some xs[i] ∧ w.frozen? ⟨g, i, none⟩ = false := by
 refine ⟨?_, ?_⟩
 ·have := h.cells (g := g) rfl i xs[i] (by simp [hi])
  rwa [addr_add, Nat.zero_add] at this
 ·rcases h.2 with ⟨h0, _⟩ | ⟨g', cap', cur, hv, hg, hh, _⟩
  ·cases h0
  ·cases hv; exact frozen_of_row _ _ _ _ _ hh
theorem list_take_set {α : Type} (l : List α) (n i : Nat) (x : α) : (l.set i x).take n = (l.take n).set i x := by
 apply List.ext_getElem?
 intro j
 simp only [List.getElem?_take, List.getElem?_set, List.length_take]
 by_cases hj : j < n
 ·by_cases hij : i = j
  ·subst hij
   by_cases hl : i < l.length
   ·simp [hj, hl, show i < min n l.length by omega]
   ·simp [hj, hl, show ¬ i < min n l.length by omega]
  ·simp [hj, hij]
 ·by_cases hij : i = j
  ·subst hij; simp [hj]; omega
  ·simp [hj, hij]
theorem own_set {w : World} {base : Nat} {e : TypeId} {size g n c : Nat} {xs : List Value} (h : w.ownsRow base e size (.slice (some ⟨g, 0, none⟩) n c) n xs) (i : Nat) (u : Value) :
  (w.setCell ⟨g, i, none⟩ u).ownsRow base e size (.slice (some ⟨g, 0, none⟩) n c) n (xs.set i u) := by
 refine ⟨by rw [List.length_set]; exact h.1, ?_⟩
 rcases h.2 with ⟨h0, _⟩ | ⟨g', cap', cur, hv, hge, hh, hn, hcap, hsz, htake⟩
 ·cases h0
 ·cases hv
  refine .inr ⟨g, c, cur.setIfInBounds i u, rfl, hge, heap_setCell_same w g i cur e u hh, hn, hcap, by simpa using hsz, ?_⟩
  rw [Array.toList_setIfInBounds, list_take_set, htake]
theorem own_block {w : World} {base : Nat} {e : TypeId} {size : Nat} {v : Value} {n : Nat} {xs : List Value} (h : w.ownsRow base e size v n xs) (hn : 0 < n) : ∃ g c, v = .slice (some ⟨g, 0, none⟩) n c ∧ base ≤ g ∧ g < w.heap.size ∧ n ≤ c ∧ c ≤ maxLen := by
 rcases h.2 with ⟨_, h0⟩ | ⟨g, c, cur, hv, hge, hh, hnc, hcm, _⟩
 ·omega
 ·exact ⟨g, c, hv, hge, (Array.getElem?_eq_some_iff.1 hh).1, hnc, hcm⟩
theorem Row.set_other {w : World} {p : Option Addr} {cs : List Value} (h : Row w p cs) (a : Addr) (u : Value) (hne : ∀ q, p = some q → q.block ≠ a.block) : Row (w.setCell a u) p cs := by
 intro hcs
 obtain ⟨b, o, hp, hc⟩ := h hcs
 refine ⟨b, o, hp, fun i hi => ?_⟩
 rw [World.cell?_setCell_other]
 ·exact hc i hi
 ·intro e
  have := congrArg Addr.block e
  exact hne _ hp this.symm
theorem own_setO {w : World} {base : Nat} {e : TypeId} {size : Nat} {v : Value} {n : Nat} {xs : List Value} (h : w.ownsRow base e size v n xs) (a : Addr) (u : Value) (hne : ∀ g, v.ownBlock = some g → g ≠ a.block) : (w.setCell a u).ownsRow base e size v n xs := by
 refine ⟨h.1, ?_⟩
 rcases h.2 with hn | ⟨g, cap, cur, rfl, hge, hg, rest⟩
 ·exact .inl hn
 ·exact .inr ⟨g, cap, cur, rfl, hge, (Below.heap_setCell w a u g (hne g rfl)).trans hg, rest⟩
theorem made_one (z : Value) (n : Nat) (hz : z.cells = #[z]) : (madeCells z.cells (n * 1)).toList = List.replicate n z := by
 rw [hz]
 simp only [madeCells, Nat.mul_one]
 apply List.ext_getElem
 ·simp
 ·intro i h1 h2
  simp [Nat.mod_one]
end Go.Proofs.YtabkmdhkfbcldaaGreat
