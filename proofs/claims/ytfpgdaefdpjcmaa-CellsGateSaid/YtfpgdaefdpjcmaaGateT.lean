/-
  Who has been told what at a barrier, in plain words.
-/
import Derived.Test.YtfpgdaefdpjcmaaStep
namespace Go.Proofs.Ytfpgdaefdpjcmaa
open Go.RowKit

section
variable {β : Type}
theorem alook_aset (l : List (Int × β)) (x : Int) (u : β) (y : Int) : alook (aset l x u) y = if y = x then some u else alook l y := by
  induction l with
  | nil => simp [aset, alook]
  | cons p r ih =>
    obtain ⟨a, v⟩ := p
    by_cases hx : x = a
    · subst hx
      simp only [aset, if_true, alook]
      by_cases hy : y = x
      · rw [if_pos hy, if_pos hy]
      · rw [if_neg hy, if_neg hy, if_neg hy]
    · simp only [aset, if_neg hx, alook, ih]
      by_cases hy : y = a
      · have hne : ¬ y = x := fun e => hx (e.symm.trans hy)
        rw [if_pos hy, if_neg hne, if_pos hy]
      · rw [if_neg hy, if_neg hy]
theorem alook_adel_ne (l : List (Int × β)) (x y : Int) (h : y ≠ x) : alook (adel l x) y = alook l y := by
  induction l with
  | nil => rfl
  | cons p r ih =>
    obtain ⟨a, v⟩ := p
    by_cases hx : x = a
    · subst hx
      simp [adel, alook, h]
    · by_cases hy : y = a <;> simp [adel, alook, hx, hy, ih]
theorem alook_none (l : List (Int × β)) (x : Int) (h : x ∉ l.map (·.1)) : alook l x = none := by
  induction l with
  | nil => rfl
  | cons p r ih =>
    obtain ⟨a, v⟩ := p
    simp at h
    simp only [alook, if_neg h.1]
    exact ih (by simpa using h.2)
theorem alook_adel (l : List (Int × β)) (x : Int) (hn : (l.map (·.1)).Nodup) : alook (adel l x) x = none := by
  induction l with
  | nil => rfl
  | cons p r ih =>
    obtain ⟨a, v⟩ := p
    simp only [List.map_cons, List.nodup_cons] at hn
    by_cases hx : x = a
    · subst hx
      simp only [adel, if_pos]
      exact alook_none r x hn.1
    · simp only [adel, if_neg hx, alook]
      exact ih hn.2
theorem keys_adel (l : List (Int × β)) (x : Int) : ∀ y, y ∈ (adel l x).map (·.1) → y ∈ l.map (·.1) := by
  induction l with
  | nil => intro y h; exact h
  | cons p r ih =>
    obtain ⟨a, v⟩ := p
    intro y h
    by_cases hx : x = a
    · simp only [adel, if_pos hx] at h
      simp only [List.map_cons, List.mem_cons]
      exact .inr h
    · simp only [adel, if_neg hx, List.map_cons, List.mem_cons] at h ⊢
      exact h.imp id (ih y)
theorem nodup_adel (l : List (Int × β)) (x : Int) (hn : (l.map (·.1)).Nodup) : ((adel l x).map (·.1)).Nodup := by
  induction l with
  | nil => exact hn
  | cons p r ih =>
    obtain ⟨a, v⟩ := p
    simp only [List.map_cons, List.nodup_cons] at hn
    by_cases hx : x = a
    · simp only [adel, if_pos hx]
      exact hn.2
    · simp only [adel, if_neg hx, List.map_cons, List.nodup_cons]
      exact ⟨fun h => hn.1 (keys_adel r x a h), ih hn.2⟩
theorem keys_aset (l : List (Int × β)) (x : Int) (u : β) : ∀ y, y ∈ (aset l x u).map (·.1) → y = x ∨ y ∈ l.map (·.1) := by
  induction l with
  | nil => intro y h; simp [aset] at h; exact .inl h
  | cons p r ih =>
    obtain ⟨a, v⟩ := p
    intro y h
    by_cases hx : x = a
    · simp only [aset, if_pos hx, List.map_cons, List.mem_cons] at h ⊢
      exact .inr h
    · simp only [aset, if_neg hx, List.map_cons, List.mem_cons] at h ⊢
      rcases h with h | h
      · exact .inr (.inl h)
      · exact (ih y h).imp id .inr
theorem nodup_aset (l : List (Int × β)) (x : Int) (u : β) (hn : (l.map (·.1)).Nodup) : ((aset l x u).map (·.1)).Nodup := by
  induction l with
  | nil => simp [aset]
  | cons p r ih =>
    obtain ⟨a, v⟩ := p
    simp only [List.map_cons, List.nodup_cons] at hn
    by_cases hx : x = a
    · simp only [aset, if_pos hx, List.map_cons, List.nodup_cons]
      exact hn
    · simp only [aset, if_neg hx, List.map_cons, List.nodup_cons]
      refine ⟨fun h => ?_, ih hn.2⟩
      rcases keys_aset r x u a h with e | e
      · exact hx e.symm
      · exact hn.1 e
end

def gateC (n : Int) (came : List Int) (T : Int) : Ce := ⟨3, 0, -1, n, came, T, false⟩

/-- Of the first j workers: how many wait for turn T. -/
def cntP (l : List (Int × Int)) (T : Int) : Nat → Nat
  | 0 => 0
  | j + 1 => cntP l T j + if alook l (j : Int) = some T then 1 else 0

structure GInv (n : Nat) (T : Int) (came : List Int) (l : List (Int × Int)) : Prop where
  keys : (l.map (·.1)).Nodup
  told : ∀ w t, alook l w = some t → t ≤ T
  here : ∀ w : Int, 0 ≤ w → w < n → (alook l w = some T ↔ w ∈ came)
  nodup : came.Nodup
  range : ∀ v ∈ came, 0 ≤ v ∧ v < (n : Int)

theorem GInv.start (n : Nat) : GInv n 0 [] [] :=
  ⟨List.nodup_nil, (fun w t h => by cases h), (fun w _ _ => by simp [alook]), List.nodup_nil, by simp⟩
theorem GInv.del {n : Nat} {T t : Int} {came : List Int} {l : List (Int × Int)} (h : GInv n T came l) (w : Int) (hw : alook l w = some t) (ht : t < T) : GInv n T came (adel l w) := by
  have e : ∀ y, alook (adel l w) y = if y = w then none else alook l y := fun y => by
    by_cases hy : y = w
    · subst hy; rw [alook_adel l y h.keys, if_pos rfl]
    · rw [alook_adel_ne l w y hy, if_neg hy]
  refine ⟨nodup_adel l w h.keys, fun y u hu => ?_, fun y h0 h1 => ?_, h.nodup, h.range⟩
  · rw [e] at hu
    split at hu
    · cases hu
    · exact h.told y u hu
  · rw [e]
    split
    · rename_i hy
      subst hy
      refine ⟨(fun h => by cases h), fun hm => ?_⟩
      have := (h.here y h0 h1).2 hm
      rw [hw] at this
      cases this
      omega
    · exact h.here y h0 h1
theorem GInv.full {n : Nat} {T : Int} {came : List Int} {l : List (Int × Int)} (h : GInv n T came l) (w : Int) : GInv n (T + 1) [] (aset l w T) := by
  have ht : ∀ y u, alook (aset l w T) y = some u → u ≤ T := fun y u hu => by
    rw [alook_aset] at hu
    split at hu
    · cases hu; omega
    · exact h.told y u hu
  refine ⟨nodup_aset l w T h.keys, (fun y u hu => by have := ht y u hu; omega), fun y _ _ => ⟨fun hy => ?_, (fun hy => by cases hy)⟩, List.nodup_nil, by simp⟩
  have := ht y _ hy
  omega
theorem GInv.more {n : Nat} {T : Int} {came : List Int} {l : List (Int × Int)} (h : GInv n T came l) (w : Int) (h0 : 0 ≤ w) (h1 : w < n) (hw : alook l w = none) : GInv n T (came ++ [w]) (aset l w T) := by
  have hnm : w ∉ came := fun hm => by
    have := (h.here w h0 h1).2 hm
    rw [hw] at this
    cases this
  refine ⟨nodup_aset l w T h.keys, fun y u hu => ?_, fun y g0 g1 => ?_, ?_, fun v hv => ?_⟩
  · rw [alook_aset] at hu
    split at hu
    · cases hu; omega
    · exact h.told y u hu
  · rw [alook_aset]
    by_cases hy : y = w
    · simp [hy]
    · rw [if_neg hy, h.here y g0 g1]
      simp [hy]
  · rw [List.nodup_append]
    refine ⟨h.nodup, by simp, fun a ha b hb e => ?_⟩
    simp at hb
    subst hb e
    exact hnm ha
  · rcases List.mem_append.1 hv with hv | hv
    · exact h.range v hv
    · simp at hv; subst hv; exact ⟨h0, h1⟩

/-- How many of the first j are among c. -/
def cntM (c : List Int) : Nat → Nat
  | 0 => 0
  | j + 1 => cntM c j + if (j : Int) ∈ c then 1 else 0
theorem cntM_cons (v : Nat) (c : List Int) (hv : (v : Int) ∉ c) : ∀ j, cntM ((v : Int) :: c) j = cntM c j + if v < j then 1 else 0
  | 0 => by simp [cntM]
  | j + 1 => by
    rw [cntM, cntM, cntM_cons v c hv j]
    by_cases hj : (j : Int) ∈ c
    · have hne : ¬ (j : Int) = v := fun e => hv (e ▸ hj)
      have hne' : ¬ j = v := by omega
      rw [if_pos hj, if_pos (List.mem_cons_of_mem _ hj)]
      by_cases h : v < j
      · rw [if_pos h, if_pos (by omega)]
      · rw [if_neg h, if_neg (by omega)]
    · rw [if_neg hj]
      by_cases hjv : j = v
      · subst hjv
        rw [if_pos (List.mem_cons_self ..), if_neg (by omega), if_pos (by omega)]
      · have hn2 : ¬ ((j : Int) ∈ (v : Int) :: c) := by
          rw [List.mem_cons]
          exact fun h => h.elim (fun e => hjv (by omega)) hj
        rw [if_neg hn2]
        by_cases h : v < j
        · rw [if_pos h, if_pos (by omega)]
        · rw [if_neg h, if_neg (by omega)]
theorem cntM_len (n : Nat) : ∀ c : List Int, c.Nodup → (∀ v ∈ c, 0 ≤ v ∧ v < (n : Int)) → cntM c n = c.length
  | [], _, _ => by
    have : ∀ j, cntM [] j = 0 := fun j => by induction j with
      | zero => rfl
      | succ j ih => simp [cntM, ih]
    exact this n
  | v :: c, hn, hr => by
    obtain ⟨h0, h1⟩ := hr v (List.mem_cons_self ..)
    obtain ⟨v', rfl⟩ := Int.eq_ofNat_of_zero_le h0
    rw [List.nodup_cons] at hn
    rw [cntM_cons v' c hn.1, cntM_len n c hn.2 (fun x hx => hr x (List.mem_cons_of_mem _ hx)), if_pos (by omega)]
    rfl
theorem GInv.count {n : Nat} {T : Int} {came : List Int} {l : List (Int × Int)} (h : GInv n T came l) : cntP l T n = came.length := by
  rw [← cntM_len n came h.nodup h.range]
  have : ∀ j, j ≤ n → cntP l T j = cntM came j := fun j => by
    induction j with
    | zero => intro _; rfl
    | succ j ih =>
      intro hj
      rw [cntP, cntM, ih (by omega)]
      congr 1
      have := h.here j (by omega) (by omega)
      by_cases hm : (j : Int) ∈ came
      · rw [if_pos hm, if_pos (this.2 hm)]
      · rw [if_neg hm, if_neg (fun e => hm (this.1 e))]
  exact this n (Nat.le_refl _)
theorem cntP_le (l : List (Int × Int)) (T : Int) : ∀ j, cntP l T j ≤ j
  | 0 => Nat.le_refl _
  | j + 1 => by
    have := cntP_le l T j
    rw [cntP]
    split <;> omega

theorem gate_start (n : Nat) (h1 : 1 ≤ n) (h8 : n ≤ 8) : makeP 3 n = (gateC n [] 0, 0) := by
  unfold makeP
  rw [if_neg]
  · rfl
  · simp [badMk]; omega
theorem gate_ok0 (n : Nat) (h1 : 1 ≤ n) (h8 : n ≤ 8) : okP (gateC n [] 0) = true := by
  have : gateP (gateC n [] 0) = true := by
    rw [gateP_iff]
    simp [gateC, cameN]
    omega
  simp [okP, gateC] at this ⊢
  exact this
theorem gate_pass {n : Nat} {T : Int} {came : List Int} (hok : okP (gateC n came T) = true) (w : Int) (hw : isW w = true) (t : Int) :
    oneP (gateC n came T) w ⟨6, 0, t, 0⟩ = if T ≤ t then (gateC n came T, 0, 231) else (gateC n came T, T, 0) := by
  unfold oneP
  rw [hok, hw]
  by_cases h : T ≤ t <;> simp [stepP, gateC, h]
theorem gate_arrive {n : Nat} {T : Int} {came : List Int} (hok : okP (gateC n came T) = true) (w : Int) (hw : isW w = true) (hm : w ∉ came) (hT : T < 1152921504606846976) :
    oneP (gateC n came T) w ⟨5, 0, 0, 0⟩ = if (came.length : Int) + 1 = n then (gateC n [] (T + 1), T, 0) else (gateC n (came ++ [w]) T, T, 0) := by
  unfold oneP
  rw [hok, hw]
  have h1 : came.contains w = false := by simpa using hm
  have h2 : ¬ T = 1152921504606846976 := by omega
  have h3 : stepP ⟨3, 0, -1, n, came, T, false⟩ w ⟨5, 0, 0, 0⟩ = if (came.length : Int) + 1 = n then (gateC n [] (T + 1), T, 0) else (gateC n (came ++ [w]) T, T, 0) := by
    by_cases h3 : (came.length : Int) + 1 = n
    · rw [if_pos h3]; simp only [stepP, h1, h2, h3, gateC]; simp
    · rw [if_neg h3]; simp only [stepP, h1, h2, h3, gateC]; simp
  exact h3
theorem gate_len {n : Nat} {T : Int} {came : List Int} (hok : okP (gateC n came T) = true) : (came.length : Int) < n := by
  simp [okP, gateC] at hok
  have := (gateP_iff _).1 hok
  exact this.2.2.1
end Go.Proofs.Ytfpgdaefdpjcmaa
