/-
 Stable sorting in plain words: merging by halves.
 Stable sorting at a row of structs: what is asked of the types; a stretch exchanged with another one.
 Stable sorting at a row of structs: two stretches that lie side by side, turned round.
 Stable sorting at a row of structs: merging where the first stretch is one element.
 Stable sorting at a row of structs: merging where the second stretch is one element.
 Stable sorting at a row of structs: merging by halves, the first stretch the longer one.
-/
import Derived.Sort.LotA
import Derived.Shelf.SlSortCmp.KitK
import Derived.Deep.LoopGhost
import Derived.Test.YthlingholhjcnaaProg
namespace Go.Proofs.Ythlingholhjcnaa
open Go.Sort
def Srt {α : Type} (R : α → α → Bool) (l : List α) : Prop := l.Pairwise fun x y => R y x = false
def lexR {α : Type} (lt : α → α → Bool) (ix : α → Nat) (x y : α) : Bool := lt x y || (!lt y x && decide (ix x < ix y))
section
variable {α : Type} {R lt : α → α → Bool} {ix : α → Nat}
theorem swo_asymm [Inhabited α] (h : SWO R) {x y : α} (hxy : R x y = true) : R y x = false := by
 cases hh : R y x
 ·rfl
 ·have := h.trans _ _ _ hxy hh; rw [h.irrefl] at this; cases this
theorem lex_cross [Inhabited α] {x y : α} (hxy : ix x < ix y) : lexR lt ix y x = lt y x := by
 unfold lexR
 have : ¬ ix y < ix x := by omega
 simp [this]
theorem swo_lex [Inhabited α] (h : SWO lt) : SWO (lexR lt ix) where
 irrefl x := by unfold lexR; simp [h.irrefl]
 trans x y z h1 h2 := by
  unfold lexR at *
  simp only [Bool.or_eq_true, Bool.and_eq_true, Bool.not_eq_true', decide_eq_true_eq] at *
  rcases h1 with h1 | ⟨h1, i1⟩ <;> rcases h2 with h2 | ⟨h2, i2⟩
  ·exact .inl (h.trans _ _ _ h1 h2)
  ·cases hxz : lt x z
   ·have := h.ntrans _ _ _ hxz h2; rw [h1] at this; cases this
   ·exact .inl rfl
  ·cases hxz : lt x z
   ·have := h.ntrans _ _ _ h1 hxz; rw [h2] at this; cases this
   ·exact .inl rfl
  ·exact .inr ⟨h.ntrans _ _ _ h2 h1, by omega⟩
 ntrans x y z h1 h2 := by
  unfold lexR at *
  simp only [Bool.or_eq_false_iff, Bool.and_eq_false_iff, Bool.not_eq_false', decide_eq_false_iff_not] at *
  obtain ⟨a1, b1⟩ := h1
  obtain ⟨a2, b2⟩ := h2
  refine ⟨h.ntrans _ _ _ a1 a2, ?_⟩
  rcases b1 with b1 | b1
  ·cases hzx : lt z x
   ·have := h.ntrans _ _ _ a2 hzx; rw [b1] at this; cases this
   ·exact .inl rfl
  ·rcases b2 with b2 | b2
   ·cases hzx : lt z x
    ·have := h.ntrans _ _ _ hzx a1; rw [b2] at this; cases this
    ·exact .inl rfl
   ·exact .inr (by omega)
theorem srt_app {A B : List α} : Srt R (A ++ B) ↔ Srt R A ∧ Srt R B ∧ ∀ x ∈ A, ∀ y ∈ B, R y x = false := List.pairwise_append
theorem merge_cut [Inhabited α] (hS : SWO R) {A1 A2 B1 B2 : List α} (hA : Srt R (A1 ++ A2)) (hB : Srt R (B1 ++ B2))
  (h1 : A1 = [] ∨ B2 = [] ∨ ∃ L x y M, A1 = L ++ [x] ∧ B2 = y :: M ∧ R y x = false)
  (h2 : A2 = [] ∨ B1 = [] ∨ ∃ M y x L, A2 = y :: M ∧ B1 = L ++ [x] ∧ R y x = false) :
  ∀ x ∈ A1 ++ B1, ∀ y ∈ A2 ++ B2, R y x = false := by
 obtain ⟨a1, a2, a3⟩ := srt_app.1 hA
 obtain ⟨b1, b2, b3⟩ := srt_app.1 hB
 intro x hx y hy
 rcases List.mem_append.1 hx with hx | hx <;> rcases List.mem_append.1 hy with hy | hy
 ·exact a3 x hx y hy
 ·rcases h1 with rfl | rfl | ⟨L, x', y', M, rfl, rfl, hxy⟩
  ·cases hx
  ·cases hy
  ·have e1 : R x' x = false := by
    rcases List.mem_append.1 hx with hx | hx
    ·exact (srt_app.1 a1).2.2 x hx x' (by simp)
    ·rw [List.mem_singleton.1 hx]; exact hS.irrefl _
   have e2 : R y y' = false := by
    rcases List.mem_cons.1 hy with rfl | hy
    ·exact hS.irrefl _
    ·exact (List.pairwise_cons.1 b2).1 y hy
   exact hS.ntrans _ _ _ e2 (hS.ntrans _ _ _ hxy e1)
 ·rcases h2 with rfl | rfl | ⟨M, y', x', L, rfl, rfl, hxy⟩
  ·cases hy
  ·cases hx
  ·have e1 : R x' x = false := by
    rcases List.mem_append.1 hx with hx | hx
    ·exact (srt_app.1 b1).2.2 x hx x' (by simp)
    ·rw [List.mem_singleton.1 hx]; exact hS.irrefl _
   have e2 : R y y' = false := by
    rcases List.mem_cons.1 hy with rfl | hy
    ·exact hS.irrefl _
    ·exact (List.pairwise_cons.1 a2).1 y hy
   exact hS.ntrans _ _ _ e2 (hS.ntrans _ _ _ hxy e1)
 ·exact b3 x hx y hy
theorem merge_join {A1 A2 B1 B2 C1 C2 : List α} (h : ∀ x ∈ A1 ++ B1, ∀ y ∈ A2 ++ B2, R y x = false) (p1 : C1.Perm (A1 ++ B1)) (p2 : C2.Perm (A2 ++ B2)) (s1 : Srt R C1) (s2 : Srt R C2) :
  Srt R (C1 ++ C2) ∧ (C1 ++ C2).Perm ((A1 ++ A2) ++ (B1 ++ B2)) := by
 refine ⟨srt_app.2 ⟨s1, s2, fun x hx y hy => h x (p1.mem_iff.1 hx) y (p2.mem_iff.1 hy)⟩, ?_⟩
 refine (p1.append p2).trans ?_
 rw [List.append_assoc, List.append_assoc]
 refine List.Perm.append_left A1 ?_
 rw [← List.append_assoc, ← List.append_assoc]
 exact (List.perm_append_comm).append_right B2
theorem merge_one_left [Inhabited α] (hS : SWO R) {x : α} {B1 B2 : List α} (hB : Srt R (B1 ++ B2))
  (h1 : B1 = [] ∨ ∃ L z, B1 = L ++ [z] ∧ R z x = true) (h2 : B2 = [] ∨ ∃ y M, B2 = y :: M ∧ R y x = false) : Srt R (B1 ++ x :: B2) := by
 obtain ⟨b1, b2, b3⟩ := srt_app.1 hB
 have k1 : ∀ z ∈ B1, R x z = false := by
  rcases h1 with rfl | ⟨L, z', rfl, hz⟩
  ·intro z hz; cases hz
  ·intro z hz'
   have e : R z' z = false := by
    rcases List.mem_append.1 hz' with h | h
    ·exact (srt_app.1 b1).2.2 z h z' (by simp)
    ·rw [List.mem_singleton.1 h]; exact hS.irrefl _
   exact hS.ntrans _ _ _ (swo_asymm hS hz) e
 refine srt_app.2 ⟨b1, List.pairwise_cons.2 ⟨?_, b2⟩, ?_⟩
 ·rcases h2 with rfl | ⟨y', M, rfl, hy⟩
  ·intro y hy; cases hy
  ·intro y hy'
   rcases List.mem_cons.1 hy' with rfl | h
   ·exact hy
   ·exact hS.ntrans _ _ _ ((List.pairwise_cons.1 b2).1 y h) hy
 ·intro z hz y hy
  rcases List.mem_cons.1 hy with rfl | h
  ·exact k1 z hz
  ·exact b3 z hz y h
theorem merge_one_right [Inhabited α] (hS : SWO R) {y : α} {A1 A2 : List α} (hA : Srt R (A1 ++ A2))
  (h1 : A1 = [] ∨ ∃ L z, A1 = L ++ [z] ∧ R y z = false) (h2 : A2 = [] ∨ ∃ x M, A2 = x :: M ∧ R y x = true) : Srt R (A1 ++ y :: A2) := by
 obtain ⟨a1, a2, a3⟩ := srt_app.1 hA
 have k1 : ∀ z ∈ A1, R y z = false := by
  rcases h1 with rfl | ⟨L, z', rfl, hz⟩
  ·intro z hz; cases hz
  ·intro z hz'
   have e : R z' z = false := by
    rcases List.mem_append.1 hz' with h | h
    ·exact (srt_app.1 a1).2.2 z h z' (by simp)
    ·rw [List.mem_singleton.1 h]; exact hS.irrefl _
   exact hS.ntrans _ _ _ hz e
 refine srt_app.2 ⟨a1, List.pairwise_cons.2 ⟨?_, a2⟩, ?_⟩
 ·rcases h2 with rfl | ⟨x', M, rfl, hx⟩
  ·intro x hx; cases hx
  ·intro x hx'
   have e : R x x' = false := by
    rcases List.mem_cons.1 hx' with rfl | h
    ·exact hS.irrefl _
    ·exact (List.pairwise_cons.1 a2).1 x h
   exact hS.ntrans _ _ _ e (swo_asymm hS hx)
 ·intro z hz x hx
  rcases List.mem_cons.1 hx with rfl | h
  ·exact k1 z hz
  ·exact a3 z hz x h
end
/-! ### Insertion sort, the numbers rising -/
section
variable {α : Type} [Inhabited α] {lt : α → α → Bool} {ix : α → Nat}
theorem insInner_lex (a : Nat) : ∀ (j : Nat) (d : Array α), j < d.size → (∀ t, a ≤ t → t < j → ix d[t]! < ix d[j]!) → insInner (lexR lt ix) a j d = insInner lt a j d
 | 0, _, _, _ => rfl
 | j + 1, d, hj, h => by
  unfold insInner
  by_cases hc : j + 1 > a
  ·rw [lex_cross (h j (by omega) (by omega))]
   by_cases hl : (decide (j + 1 > a) && lt d[j + 1]! d[j]!) = true
   ·rw [if_pos hl, if_pos hl]
    refine insInner_lex a j _ (by rw [size_swp]; omega) fun t ht1 ht2 => ?_
    rw [swp_get d hj (by omega) t, swp_get d hj (by omega) j]
    have := h t ht1 (by omega)
    simp [show t ≠ j by omega, show t ≠ j + 1 by omega, show ¬ j = j + 1 by omega]
    exact this
   ·rw [if_neg hl, if_neg hl]
  ·have e : ∀ b : Bool, ¬ (decide (j + 1 > a) && b) = true := by intro b; simp; omega
   rw [if_neg (e _), if_neg (e _)]
theorem insInner_size (a : Nat) : ∀ (j : Nat) (d : Array α), (insInner lt a j d).size = d.size
 | 0, _ => rfl
 | j + 1, d => by
  unfold insInner
  split
  ·rw [insInner_size a j]; exact size_swp _ _ _
  ·rfl
theorem insInner_rise (b a i : Nat) : ∀ (j : Nat) (d : Array α), j ≤ i → i < d.size → (∀ s t, a ≤ s → s < t → i < t → t < b → ix d[s]! < ix d[t]!) → ∀ s t, a ≤ s → s < t → i < t → t < b → ix (insInner lt a j d)[s]! < ix (insInner lt a j d)[t]!
 | 0, _, _, _, h => h
 | j + 1, d, hj, hi, h => by
  unfold insInner
  by_cases hl : (decide (j + 1 > a) && lt d[j + 1]! d[j]!) = true
  ·rw [if_pos hl]
   have ha : j + 1 > a := by simp at hl; exact hl.1
   refine insInner_rise b a i j _ (by omega) (by rw [size_swp]; exact hi) fun s t h1 h2 h3 h4 => ?_
   rw [swp_get d (by omega) (by omega) s, swp_get d (by omega) (by omega) t]
   have e1 : t ≠ j := by omega
   have e2 : t ≠ j + 1 := by omega
   by_cases e3 : s = j
   ·subst e3
    have := h (s + 1) t (by omega) (by omega) h3 h4
    simp [e1, e2, show ¬ s = s + 1 by omega]
    exact this
   ·by_cases e4 : s = j + 1
    ·subst e4
     have := h j t (by omega) (by omega) h3 h4
     simp [e1, e2]
     exact this
    ·have := h s t h1 h2 h3 h4
     simp [e1, e2, e3, e4]
     exact this
  ·rw [if_neg hl]; exact h
theorem insOuter_lex (a b : Nat) (hab : a ≤ b) : ∀ (n i : Nat) (d : Array α), b - i ≤ n → a < i → b ≤ d.size → (∀ s t, a ≤ s → s < t → i ≤ t → t < b → ix d[s]! < ix d[t]!) → insOuter (lexR lt ix) a b i d = insOuter lt a b i d
 | n, i, d, hn, hai, hb, h => by
  unfold insOuter
  by_cases hib : i < b
  ·rw [if_pos hib, if_pos hib, insInner_lex a i d (by omega) (fun t h1 h2 => h t i h1 h2 (Nat.le_refl _) hib)]
   obtain ⟨n, rfl⟩ : ∃ m, n = m + 1 := ⟨n - 1, by omega⟩
   refine insOuter_lex a b hab n (i + 1) _ (by omega) (by omega) ?_ fun s t h1 h2 h3 h4 => ?_
   ·rw [insInner_size]; exact hb
   ·exact insInner_rise b a i i d (Nat.le_refl _) (by omega) (fun s t h1 h2 h3 h4 => h s t h1 h2 (by omega) h4) s t h1 h2 (by omega) h4
  ·rw [if_neg hib, if_neg hib]
theorem insertion_lex (hS : SWO lt) {d : Array α} {pre X post : List α} (hd : d.toList = pre ++ X ++ post) (hix : X.Pairwise fun x y => ix x < ix y) :
  ∃ X' : List α, (insertionSort lt d pre.length (pre.length + X.length)).toList = pre ++ X' ++ post ∧ X'.Perm X ∧ Srt (lexR lt ix) X' := by
 have hsz : d.size = pre.length + X.length + post.length := by
  have := congrArg List.length hd
  simp at this; omega
 have hget : ∀ s, s < X.length → d[pre.length + s]! = X[s]! := fun s hs => by
  rw [getElem!_pos d _ (by omega), getElem!_pos X s hs, ← Array.getElem_toList]
  simp only [hd]
  rw [List.getElem_append_left (by simp; omega), List.getElem_append_right (by omega)]
  congr 1
  omega
 have hle : insertionSort (lexR lt ix) d pre.length (pre.length + X.length) = insertionSort lt d pre.length (pre.length + X.length) := by
  unfold insertionSort
  refine insOuter_lex _ _ (by omega) _ _ d (Nat.le_refl _) (by omega) (by omega) fun s t h1 h2 h3 h4 => ?_
  obtain ⟨s', rfl⟩ := Nat.exists_eq_add_of_le h1
  obtain ⟨t', rfl⟩ := Nat.exists_eq_add_of_le (show pre.length ≤ t by omega)
  rw [hget s' (by omega), hget t' (by omega)]
  have := List.pairwise_iff_getElem.1 hix s' t' (by omega) (by omega) (by omega)
  rwa [getElem!_pos X s' (by omega), getElem!_pos X t' (by omega)]
 rw [← hle]
 obtain ⟨⟨p1, p2, p3⟩, p4⟩ := insertionSort_holds (lt := lexR lt ix) (swo_lex hS) d pre.length (pre.length + X.length) (by omega) (by omega)
 generalize insertionSort (lexR lt ix) d pre.length (pre.length + X.length) = d' at p1 p2 p3 p4 ⊢
 have cut : ∀ e : Array α, e.size = d.size → e.toList = e.toList.take pre.length ++ (e.extract pre.length (pre.length + X.length)).toList ++ e.toList.drop (pre.length + X.length) := fun e he => by
  rw [Array.toList_extract, List.extract_eq_take_drop]
  rw [show pre.length + X.length - pre.length = X.length by omega, List.append_assoc]
  conv => lhs; rw [← List.take_append_drop pre.length e.toList]
  congr 1
  rw [← List.drop_drop]
  exact (List.take_append_drop _ _).symm
 have hpre : d'.toList.take pre.length = pre := by
  refine List.ext_getElem (by simp; omega) fun i h1 h2 => ?_
  have hi : i < pre.length := by simpa using h2
  have e := p2 i (.inl hi)
  rw [getElem!_pos d' i (by omega), getElem!_pos d i (by omega), ← Array.getElem_toList, ← Array.getElem_toList] at e
  rw [List.getElem_take, e]
  simp only [hd]
  rw [List.getElem_append_left (by simp; omega), List.getElem_append_left hi]
 have hpost : d'.toList.drop (pre.length + X.length) = post := by
  refine List.ext_getElem (by simp; omega) fun i h1 h2 => ?_
  have e := p2 (pre.length + X.length + i) (.inr (by omega))
  rw [getElem!_pos d' _ (by omega), getElem!_pos d _ (by omega), ← Array.getElem_toList, ← Array.getElem_toList] at e
  rw [List.getElem_drop, e]
  simp only [hd]
  rw [List.getElem_append_right (by simp)]
  congr 1
  simp
 have hX : (d.extract pre.length (pre.length + X.length)).toList = X := by
  rw [Array.toList_extract, List.extract_eq_take_drop, hd, List.append_assoc, List.drop_left, show pre.length + X.length - pre.length = X.length by omega, List.take_left]
 refine ⟨(d'.extract pre.length (pre.length + X.length)).toList, ?_, by rw [hX] at p3; exact p3, ?_⟩
 ·conv => lhs; rw [cut d' p1, hpre, hpost]
 ·unfold Srt
  rw [List.pairwise_iff_getElem]
  intro i j hi hj hij
  have hi' : i < X.length := by simp at hi; omega
  have hj' : j < X.length := by simp at hj; omega
  have := p4 (pre.length + i) (pre.length + j) (by omega) (by omega) (by omega)
  rw [getElem!_pos d' _ (by omega), getElem!_pos d' _ (by omega)] at this
  simpa using this
end
end Go.Proofs.Ythlingholhjcnaa
namespace Go.Proofs.Ythlingholhjcnaa
open Go.Shelf Go.RowKit Go.Lib Go.Sort
structure StT (P : Program) (k : Nat) : Prop where
 mixed : P.follows .mixedOrders = true
 t0 : P.underlying 0 = some (TypeDesc.tuple #[])
 a0 : ∀ w, (isAgg 0).run P w = .ok false w
 z0 : ∀ w, (Go.sizeOf 0).run P w = .ok 1 w
 v0 : ∀ w, (zeroValue 0).run P w = .ok (Value.tuple #[]) w
 t3 : P.underlying 3 = some (TypeDesc.int IntKind.i64)
 a3 : ∀ w, (isAgg 3).run P w = .ok false w
 z3 : ∀ w, (Go.sizeOf 3).run P w = .ok 1 w
 v3 : ∀ w, (zeroValue 3).run P w = .ok (Value.int IntKind.i64 0) w
 t4 : P.underlying 4 = some (TypeDesc.bool)
 a4 : ∀ w, (isAgg 4).run P w = .ok false w
 z4 : ∀ w, (Go.sizeOf 4).run P w = .ok 1 w
 v4 : ∀ w, (zeroValue 4).run P w = .ok (Value.bool false) w
 t22 : P.underlying 33 = some (TypeDesc.slice 42)
 a22 : ∀ w, (isAgg 33).run P w = .ok false w
 z22 : ∀ w, (Go.sizeOf 33).run P w = .ok 1 w
 v22 : ∀ w, (zeroValue 33).run P w = .ok (Value.slice none 0 0) w
 t25 : P.underlying 104 = some (TypeDesc.func #[42, 42] #[3] false)
 a25 : ∀ w, (isAgg 104).run P w = .ok false w
 z25 : ∀ w, (Go.sizeOf 104).run P w = .ok 1 w
 v25 : ∀ w, (zeroValue 104).run P w = .ok (Value.nilFunc) w
 t39 : P.underlying 135 = some (TypeDesc.int IntKind.u64)
 a39 : ∀ w, (isAgg 135).run P w = .ok false w
 z39 : ∀ w, (Go.sizeOf 135).run P w = .ok 1 w
 v39 : ∀ w, (zeroValue 135).run P w = .ok (Value.int IntKind.u64 0) w
 aE : ∀ w, (isAgg 42).run P w = .ok true w
 zE : ∀ w, (Go.sizeOf 42).run P w = .ok k w
section
variable {α : Type} [Inhabited α]
theorem swp_list {d : Array α} {p q r : List α} {x y : α} {i j : Nat} (hd : d.toList = p ++ x :: (q ++ y :: r)) (hi : i = p.length) (hj : j = p.length + 1 + q.length) :
  (swp d i j).toList = p ++ y :: (q ++ x :: r) := by
 have hs : d.size = p.length + 1 + q.length + 1 + r.length := by
  have := congrArg List.length hd
  simp at this; omega
 have gi : d[i]! = x := by
  rw [getElem!_pos d i (by omega), ← Array.getElem_toList]
  simp only [hd, hi]
  rw [List.getElem_append_right (by omega)]
  simp
 have gj : d[j]! = y := by
  rw [getElem!_pos d j (by omega), ← Array.getElem_toList]
  simp only [hd, hj]
  rw [List.getElem_append_right (by omega)]
  simp only [show p.length + 1 + q.length - p.length = q.length + 1 by omega, List.getElem_cons_succ]
  rw [List.getElem_append_right (by omega)]
  simp
 unfold swp
 rw [Array.toList_setIfInBounds, Array.toList_setIfInBounds, gi, gj, hd, hi, hj, List.set_append_right _ _ (by omega), List.set_append_right _ _ (by omega)]
 simp only [Nat.sub_self, List.set_cons_zero, show p.length + 1 + q.length - p.length = q.length + 1 by omega, List.set_cons_succ]
 rw [List.set_append_right _ _ (by omega)]
 simp
theorem swp_list' {d : Array α} {p q r : List α} {x y : α} {i j : Nat} (hd : d.toList = p ++ x :: (q ++ y :: r)) (hi : i = p.length + 1 + q.length) (hj : j = p.length) :
  (swp d i j).toList = p ++ y :: (q ++ x :: r) := by
 have hs : d.size = p.length + 1 + q.length + 1 + r.length := by
  have := congrArg List.length hd
  simp at this; omega
 have e : swp d i j = swp d j i := by
  refine Array.ext (by rw [size_swp, size_swp]) fun k h1 h2 => ?_
  rw [size_swp] at h1
  rw [← getElem!_pos _ k (by rw [size_swp]; exact h1), ← getElem!_pos _ k (by rw [size_swp]; exact h1), swp_get d (by omega) (by omega) k, swp_get d (by omega) (by omega) k]
  by_cases h3 : k = i <;> by_cases h4 : k = j <;> simp [h3, h4]
  all_goals omega
 rw [e]
 exact swp_list hd hj hi
end
variable {P : Program} {k : Nat} {α : Type} [Inhabited α]
set_option maxHeartbeats 4000000 in
set_option maxRecDepth 1000000 in
theorem swapRange_any (T : StT P k) (F : P.funcs[65]? = some Try.f65) (enc : α → List Value) (fv : Value) (blk off cap : Nat) (d0 d : Array α) (w0 w : World)
  (R : RowK enc k w0 blk off d0) (hs : d0.size = d.size) (S : SWK enc k w0 blk off d w) (hsz : d.size < 4611686018427387904)
  (pre X M Y post : List α) (hd : d.toList = pre ++ (X ++ (M ++ (Y ++ post)))) (hXY : X.length = Y.length) :
  Calls P 65 #[.slice (some ⟨blk, off, none⟩) d.size cap, .int .i64 (pre.length : Nat), .int .i64 (pre.length + X.length + M.length : Nat), .int .i64 (X.length : Nat), fv] w fun e w' =>
   e = .returned (.tuple #[]) ∧ ∃ d' : Array α, d'.size = d.size ∧ d'.toList = pre ++ (Y ++ (M ++ (X ++ post))) ∧ SWK enc k w0 blk off d' w' := by
 have mixed := T.mixed; have t0 := T.t0; have a0 := T.a0; have z0 := T.z0; have v0 := T.v0; have t3 := T.t3; have a3 := T.a3; have z3 := T.z3; have v3 := T.v3; have t4 := T.t4; have a4 := T.a4; have z4 := T.z4; have v4 := T.v4; have t22 := T.t22; have a22 := T.a22; have z22 := T.z22; have v22 := T.v22; have t25 := T.t25; have a25 := T.a25; have z25 := T.z25; have v25 := T.v25
 have aE := T.aE; have zE := T.zE
 have S0 : Aside (SWK enc k w0 blk off d w) := S
 have hdl : d.size = pre.length + X.length + M.length + Y.length + post.length := by
  have := congrArg List.length hd
  simp at this; omega
 have HD : Hid _ := hd
 clear S hd
 obtain ⟨a, ha⟩ : ∃ a, a = pre.length := ⟨_, rfl⟩
 obtain ⟨n, hn⟩ : ∃ n, n = X.length := ⟨_, rfl⟩
 obtain ⟨b, hb⟩ : ∃ b, b = pre.length + X.length + M.length := ⟨_, rfl⟩
 rw [← ha, ← hn]; rw [← ha, ← hn] at hb hdl; rw [← hn] at hXY
 rw [show a + n + M.length = b from by omega]
 have han : a + n ≤ b := by omega
 have hbn : b + n ≤ d.size := by omega
 have HA : Aside _ := And.intro ha (And.intro hn (And.intro hb (And.intro hXY hdl)))
 clear ha hn hb hXY hdl
 go_enter F, Try.ntmps65
 go_wp2
 go_loopg [10] n (fun kx s8 wr => ∃ (i : Nat) (dk : Array α) (X1 X2 Y1 Y2 : List α), s8 = .int .i64 i ∧ i ≤ n ∧ n - i ≤ kx ∧ dk.size = d.size ∧ Aside (X = X1 ++ X2 ∧ Y = Y1 ++ Y2 ∧ X1.length = i ∧ Y1.length = i ∧ dk.toList = pre ++ (Y1 ++ (X2 ++ (M ++ (X1 ++ (Y2 ++ post)))))) ∧ Aside (SWK enc k w0 blk off dk wr))
 case atStart => exact ⟨0, d, [], X, [], Y, by go_num, by omega, by omega, rfl, ⟨rfl, rfl, rfl, rfl, by rw [HD.out]; simp⟩, S0⟩
 case round =>
  clear S0
  obtain ⟨i, dk, X1, X2, Y1, Y2, rfl, hin, hkx, hds, HL, S1⟩ := hrel
  by_cases hlt : i < n
  ·have hltz : (i : Int) < (n : Int) := by omega
   have ea44 : ((a : Int) + (i : Int)).toNat = a + i := by omega
   have pa44 : (0 : Int) ≤ (a : Int) + (i : Int) := by omega
   have ba44 : (a : Int) + (i : Int) < (d.size : Int) := by omega
   have ra44 : IntKind.i64.wrap ((a : Int) + (i : Int)) = (a : Int) + (i : Int) := by rw [IntKind.wrap_i64]; omega
   have ec44 : ((b : Int) + (i : Int)).toNat = b + i := by omega
   have pc44 : (0 : Int) ≤ (b : Int) + (i : Int) := by omega
   have bc44 : (b : Int) + (i : Int) < (d.size : Int) := by omega
   have rc44 : IntKind.i64.wrap ((b : Int) + (i : Int)) = (b : Int) + (i : Int) := by rw [IntKind.wrap_i64]; omega
   go_wp2_with fail
   have S2 : Aside (SWK enc k w0 blk off (swp dk (a + i) (b + i)) ((wr.drew.setCells blk (off + (a + i) * k) (enc dk[b + i]!)).setCells blk (off + (b + i) * k) (enc dk[a + i]!))) := S1.out.swapped R (a + i) (b + i) (by omega) (by omega)
   have l44a := S1.out.ld1 R (by omega) P (a + i) (by omega)
   have l44b := S1.out.ld1 R (by omega) P (b + i) (by omega)
   have s44a := S1.out.st1 R (by omega) P (a + i) (by omega) dk[b + i]!
   have s44b := S1.out.st2 R (by omega) P (a + i) (b + i) (by omega) (by omega) dk[b + i]! dk[a + i]!
   have n44a : (enc dk[a + i]!).length = k := R.hk _
   have n44b : (enc dk[b + i]!).length = k := R.hk _
   generalize enc dk[a + i]! = cI44 at S2 l44a s44b n44a
   generalize enc dk[b + i]! = cJ44 at S2 l44b s44a s44b n44b
   clear S1
   go_big_region_o
   clear l44a l44b s44a s44b
   generalize (wr.drew.setCells blk (off + (a + i) * k) cJ44).setCells blk (off + (b + i) * k) cI44 = w2 at S2 ⊢
   go_wp2
   go_roundg (n - (i + 1))
   case measure => omega
   case rel =>
    obtain ⟨h1, h2, h3, h4, h5⟩ := HL.out
    obtain ⟨g1, g2, g3, g4, g5⟩ := HA.out
    obtain ⟨x, X3, rfl⟩ : ∃ x l, X2 = x :: l := by
     cases X2 with
     | nil => exfalso; subst h1; simp at g2; omega
     | cons x l => exact ⟨x, l, rfl⟩
    obtain ⟨y, Y3, rfl⟩ : ∃ x l, Y2 = x :: l := by
     cases Y2 with
     | nil => exfalso; subst h2; simp at g4; omega
     | cons x l => exact ⟨x, l, rfl⟩
    subst h1 h2
    refine ⟨i + 1, swp dk (a + i) (b + i), X1 ++ [x], X3, Y1 ++ [y], Y3, by go_num, by omega, Nat.le_refl _, by rw [size_swp]; exact hds, ⟨by simp, by simp, by simp [h3], by simp [h4], ?_⟩, S2⟩
    have hsw := swp_list (d := dk) (p := pre ++ Y1) (q := X3 ++ (M ++ X1)) (r := Y3 ++ post) (x := x) (y := y) (i := a + i) (j := b + i) (by rw [h5]; simp) (by simp; omega) (by simp at g2 ⊢; omega)
    rw [hsw]; simp
  ·have hltz : ¬ (i : Int) < (n : Int) := by omega
   go_wp2
   go_end0
   obtain ⟨h1, h2, h3, h4, h5⟩ := HL.out
   obtain ⟨g1, g2, g3, g4, g5⟩ := HA.out
   obtain rfl : X2 = [] := by
    cases X2 with
    | nil => rfl
    | cons x l => exfalso; subst h1; simp at g2; omega
   obtain rfl : Y2 = [] := by
    cases Y2 with
    | nil => rfl
    | cons x l => exfalso; subst h2; simp at g4; omega
   subst h1 h2
   exact ⟨rfl, dk, hds, by rw [h5]; simp, S1.out⟩
end Go.Proofs.Ythlingholhjcnaa
namespace Go.Proofs.Ythlingholhjcnaa
open Go.Shelf Go.RowKit Go.Lib Go.Sort
variable {P : Program} {k : Nat} {α : Type} [Inhabited α]
theorem swapRange_at (T : StT P k) (F : P.funcs[65]? = some Try.f65) (enc : α → List Value) (fv : Value) (blk off cap : Nat) (d0 d : Array α) (w0 w : World)
  (R : RowK enc k w0 blk off d0) (hs : d0.size = d.size) (S : SWK enc k w0 blk off d w) (hsz : d.size < 4611686018427387904)
  (pre X M Y post : List α) (hd : d.toList = pre ++ (X ++ (M ++ (Y ++ post)))) (hXY : X.length = Y.length) (n : Nat) (hn : n = d.size) {x y z : Int} (hx : x = (pre.length : Nat)) (hy : y = (pre.length + X.length + M.length : Nat)) (hz : z = (X.length : Nat)) :
  Calls P 65 #[.slice (some ⟨blk, off, none⟩) n cap, .int .i64 x, .int .i64 y, .int .i64 z, fv] w fun e w' =>
   e = .returned (.tuple #[]) ∧ ∃ d' : Array α, d'.size = d.size ∧ d'.toList = pre ++ (Y ++ (M ++ (X ++ post))) ∧ SWK enc k w0 blk off d' w' := by
 subst hx hy hz hn
 exact swapRange_any T F enc fv blk off cap d0 d w0 w R hs S hsz pre X M Y post hd hXY
set_option maxHeartbeats 4000000 in
set_option maxRecDepth 1000000 in
theorem rotate_any (T : StT P k) (F : P.funcs[65]? = some Try.f65) (F2 : P.funcs[64]? = some Try.f64) (enc : α → List Value) (fv : Value) (blk off cap : Nat) (d0 d : Array α) (w0 w : World)
  (R : RowK enc k w0 blk off d0) (hs : d0.size = d.size) (S : SWK enc k w0 blk off d w) (hsz : d.size < 4611686018427387904)
  (pre A B post : List α) (hd : d.toList = pre ++ (A ++ (B ++ post))) (hA : 0 < A.length) (hB : 0 < B.length) (n : Nat) (hn : n = d.size) {x y z : Int} (hx : x = (pre.length : Nat)) (hy : y = (pre.length + A.length : Nat)) (hz : z = (pre.length + A.length + B.length : Nat)) :
  Calls P 64 #[.slice (some ⟨blk, off, none⟩) n cap, .int .i64 x, .int .i64 y, .int .i64 z, fv] w fun e w' =>
   e = .returned (.tuple #[]) ∧ ∃ d' : Array α, d'.size = d.size ∧ d'.toList = pre ++ (B ++ (A ++ post)) ∧ SWK enc k w0 blk off d' w' := by
 have mixed := T.mixed; have t0 := T.t0; have a0 := T.a0; have z0 := T.z0; have v0 := T.v0; have t3 := T.t3; have a3 := T.a3; have z3 := T.z3; have v3 := T.v3; have t4 := T.t4; have a4 := T.a4; have z4 := T.z4; have v4 := T.v4; have t22 := T.t22; have a22 := T.a22; have z22 := T.z22; have v22 := T.v22; have t25 := T.t25; have a25 := T.a25; have z25 := T.z25; have v25 := T.v25
 have e65 : ∀ args w, (callFunc 65 args).run P w = .ok (.enter 65 args) w := enters_of F (by kernel_rfl) rfl
 have S0 : Aside (SWK enc k w0 blk off d w) := S
 have hdl : d.size = pre.length + A.length + B.length + post.length := by
  have := congrArg List.length hd
  simp at this; omega
 have HD : Hid _ := hd
 clear S hd
 obtain ⟨G, hG⟩ : ∃ G, G = pre ++ (B ++ (A ++ post)) := ⟨_, rfl⟩
 rw [← hG]
 have HG : Hid _ := hG
 clear hG
 obtain ⟨a, ha⟩ : ∃ a, a = pre.length := ⟨_, rfl⟩
 obtain ⟨la, hla⟩ : ∃ n, n = A.length := ⟨_, rfl⟩
 obtain ⟨lb, hlb⟩ : ∃ n, n = B.length := ⟨_, rfl⟩
 rw [← ha] at hx hy hz hdl
 rw [← hla] at hy hz hdl hA
 rw [← hlb] at hz hdl hB
 obtain ⟨m, hm⟩ : ∃ m, m = a + la := ⟨_, rfl⟩
 obtain ⟨b, hb⟩ : ∃ b, b = m + lb := ⟨_, rfl⟩
 rw [← hm] at hy hz hdl
 rw [← hb] at hz hdl
 have hbd : b ≤ d.size := by omega
 have HA : Aside _ := And.intro ha (And.intro hla hlb)
 subst hx hy hz hn
 have hm1 : m ≤ a + la := by omega
 have hm2 : a + la ≤ m := by omega
 have hb1 : b ≤ m + lb := by omega
 have hb2 : m + lb ≤ b := by omega
 clear ha hla hlb hdl hm hb
 go_enter F2, Try.ntmps64
 go_wp2
 go_loopg [10, 11] (la + lb) (fun kx s10 s11 wr => ∃ (i j : Nat) (dk : Array α) (pr A1 B1 po : List α), s10 = .int .i64 i ∧ s11 = .int .i64 j ∧ 0 < i ∧ 0 < j ∧ i ≤ m ∧ m + j ≤ b ∧ i + j ≤ kx ∧ dk.size = d.size ∧
  Aside (dk.toList = pr ++ (A1 ++ (B1 ++ po)) ∧ A1.length = i ∧ B1.length = j ∧ pr.length + i = m ∧ G = pr ++ (B1 ++ (A1 ++ po))) ∧ Aside (SWK enc k w0 blk off dk wr))
 case atStart => exact ⟨la, lb, d, pre, A, B, post, by go_num, by go_num, hA, hB, by omega, by omega, Nat.le_refl _, rfl, ⟨HD.out, HA.out.2.1.symm, HA.out.2.2.symm, by have := HA.out; omega, HG.out⟩, S0⟩
 case round =>
  clear S0
  obtain ⟨i, j, dk, pr, A1, B1, po, rfl, rfl, hi0, hj0, him, hjb, hkx, hds, HL, S1⟩ := hrel
  rcases Nat.lt_trichotomy i j with hij | hij | hij
  ·have hijz : (i : Int) < (j : Int) := by omega
   have hne : ¬ (i : Int) = (j : Int) := by omega
   have hng : ¬ (i : Int) > (j : Int) := by omega
   have hcon : ∀ fv x y z, x = (m : Int) - (i : Int) → y = (m : Int) + (j : Int) - (i : Int) → z = (i : Int) → Calls P 65 #[.slice (some ⟨blk, off, none⟩) d.size cap, .int .i64 x, .int .i64 y, .int .i64 z, fv] wr fun e w' =>
     e = .returned (.tuple #[]) ∧ ∃ d' : Array α, d'.size = dk.size ∧ d'.toList = pr ++ (B1.drop (j - i) ++ (B1.take (j - i) ++ (A1 ++ po))) ∧ SWK enc k w0 blk off d' w' := fun fv x y z hx hy hz => by
    obtain ⟨h1, h2, h3, h4, h5⟩ := HL.out
    have e1 : (B1.take (j - i)).length = j - i := by simp; omega
    exact swapRange_at T F enc fv blk off cap d0 dk w0 wr R (by omega) S1.out (by omega) pr A1 (B1.take (j - i)) (B1.drop (j - i)) po (by rw [h1]; simp [← List.append_assoc, List.take_append_drop]) (by simp; omega) d.size (by omega) (by omega) (by omega) (by omega)
   go_wp2_with (go_at_fn 65; refine (hcon _ _ _ _ (by omega) (by omega) (by omega)).mono ?_; rintro e w1 ⟨rfl, d1, hd1, hl1, hw1⟩)
   go_roundg (i + (j - i))
   case measure => omega
   case rel =>
    obtain ⟨h1, h2, h3, h4, h5⟩ := HL.out
    refine ⟨i, j - i, d1, pr, B1.drop (j - i), B1.take (j - i), A1 ++ po, rfl, by go_num, by omega, by omega, by omega, by omega, Nat.le_refl _, by omega, ⟨hl1, by simp; omega, by simp; omega, by omega, ?_⟩, hw1⟩
    rw [h5]
    conv => lhs; rw [← List.take_append_drop (j - i) B1]
    simp only [List.append_assoc]
  ·subst hij
   have hcon : ∀ fv x y z, x = (m : Int) - (i : Int) → y = (m : Int) → z = (i : Int) → Calls P 65 #[.slice (some ⟨blk, off, none⟩) d.size cap, .int .i64 x, .int .i64 y, .int .i64 z, fv] wr fun e w' =>
     e = .returned (.tuple #[]) ∧ ∃ d' : Array α, d'.size = dk.size ∧ d'.toList = pr ++ (B1 ++ ([] ++ (A1 ++ po))) ∧ SWK enc k w0 blk off d' w' := fun fv x y z hx hy hz => by
    obtain ⟨h1, h2, h3, h4, h5⟩ := HL.out
    exact swapRange_at T F enc fv blk off cap d0 dk w0 wr R (by omega) S1.out (by omega) pr A1 [] B1 po (by rw [h1]; simp) (by omega) d.size (by omega) (by omega) (by simp; omega) (by omega)
   go_wp2_with (go_at_fn 65; refine (hcon _ _ _ _ (by omega) (by omega) (by omega)).mono ?_; rintro e w1 ⟨rfl, d1, hd1, hl1, hw1⟩)
   go_end0
   obtain ⟨h1, h2, h3, h4, h5⟩ := HL.out
   exact ⟨rfl, d1, by omega, by rw [hl1, h5]; simp, hw1⟩
  ·have hijz : (j : Int) < (i : Int) := by omega
   have hne : ¬ (i : Int) = (j : Int) := by omega
   have hng : (i : Int) > (j : Int) := by omega
   have hcon : ∀ fv x y z, x = (m : Int) - (i : Int) → y = (m : Int) → z = (j : Int) → Calls P 65 #[.slice (some ⟨blk, off, none⟩) d.size cap, .int .i64 x, .int .i64 y, .int .i64 z, fv] wr fun e w' =>
     e = .returned (.tuple #[]) ∧ ∃ d' : Array α, d'.size = dk.size ∧ d'.toList = pr ++ (B1 ++ (A1.drop j ++ (A1.take j ++ po))) ∧ SWK enc k w0 blk off d' w' := fun fv x y z hx hy hz => by
    obtain ⟨h1, h2, h3, h4, h5⟩ := HL.out
    have e1 : (A1.take j).length = j := by simp; omega
    have e2 : (A1.drop j).length = i - j := by simp; omega
    exact swapRange_at T F enc fv blk off cap d0 dk w0 wr R (by omega) S1.out (by omega) pr (A1.take j) (A1.drop j) B1 po (by rw [h1]; simp only [← List.append_assoc]; simp only [List.append_assoc pr, List.take_append_drop]) (by omega) d.size (by omega) (by omega) (by omega) (by omega)
   go_wp2_with (go_at_fn 65; refine (hcon _ _ _ _ (by omega) (by omega) (by omega)).mono ?_; rintro e w1 ⟨rfl, d1, hd1, hl1, hw1⟩)
   go_roundg (i - j + j)
   case measure => omega
   case rel =>
    obtain ⟨h1, h2, h3, h4, h5⟩ := HL.out
    refine ⟨i - j, j, d1, pr ++ B1, A1.drop j, A1.take j, po, by go_num, rfl, by omega, by omega, by omega, by omega, Nat.le_refl _, by omega, ⟨by rw [hl1]; simp only [List.append_assoc], by simp; omega, by simp; omega, by simp; omega, ?_⟩, hw1⟩
    rw [h5]
    conv => lhs; rw [← List.take_append_drop j A1]
    simp only [List.append_assoc]
end Go.Proofs.Ythlingholhjcnaa
namespace Go.Proofs.Ythlingholhjcnaa
open Go.Shelf Go.RowKit Go.Lib Go.Sort
section
variable {α : Type} [Inhabited α]
theorem arr_at {d : Array α} {p q : List α} (hd : d.toList = p ++ q) (t : Nat) (ht : t < q.length) : d[p.length + t]! = q[t]! := by
 have hs : d.size = p.length + q.length := by
  have := congrArg List.length hd
  simp at this; omega
 rw [getElem!_pos d _ (by omega), getElem!_pos q t ht, ← Array.getElem_toList]
 simp only [hd]
 rw [List.getElem_append_right (by omega)]
 congr 1; omega
theorem cut_at (l : List α) (t : Nat) (ht : t < l.length) : l.drop t = l[t]! :: l.drop (t + 1) := by
 rw [getElem!_pos l t ht]; exact List.drop_eq_getElem_cons ht
theorem take_at (l : List α) (t : Nat) (ht : t < l.length) : l.take (t + 1) = l.take t ++ [l[t]!] := by
 rw [getElem!_pos l t ht]; exact List.take_succ_eq_append_getElem ht
end
variable {P : Program} {k : Nat} {α : Type} [Inhabited α]
set_option maxHeartbeats 8000000 in
set_option maxRecDepth 1000000 in
theorem symMerge_one (T : StT P k) (F2 : P.funcs[60]? = some Try.f60) (enc : α → List Value) (cf : α → α → Int) (Rr : α → α → Bool) (hO : SWO Rr) (g : Nat) (cb : Array Value) (blk off cap : Nat) (d0 d : Array α) (w0 w : World)
  (eg : ∀ args w, (callFunc g args).run P w = .ok (.enter g args) w) (hcmp : CmpLays P g cb enc k cf blk off d0.size w0)
  (R : RowK enc k w0 blk off d0) (hs : d0.size = d.size) (S : SWK enc k w0 blk off d w) (hsz : d.size < 2305843009213693952)
  (pre : List α) (xa : α) (B post : List α) (hd : d.toList = pre ++ (xa :: (B ++ post))) (hB : 0 < B.length) (hsB : Srt Rr B) (hx : ∀ y ∈ B, ltOf cf y xa = Rr y xa)
  (n : Nat) (hn : n = d.size) {x y z : Int} (hx1 : x = (pre.length : Nat)) (hy : y = (pre.length + 1 : Nat)) (hz : z = (pre.length + 1 + B.length : Nat)) :
  Calls P 60 #[.slice (some ⟨blk, off, none⟩) n cap, .int .i64 x, .int .i64 y, .int .i64 z, .func (.func g) #[] cb] w fun e w' =>
   e = .returned (.tuple #[]) ∧ ∃ (C : List α) (d' : Array α), d'.size = d.size ∧ C.Perm (xa :: B) ∧ Srt Rr C ∧ d'.toList = pre ++ (C ++ post) ∧ SWK enc k w0 blk off d' w' := by
 have mixed := T.mixed; have t0 := T.t0; have a0 := T.a0; have z0 := T.z0; have v0 := T.v0; have t3 := T.t3; have a3 := T.a3; have z3 := T.z3; have v3 := T.v3; have t4 := T.t4; have a4 := T.a4; have z4 := T.z4; have v4 := T.v4; have t22 := T.t22; have a22 := T.a22; have z22 := T.z22; have v22 := T.v22; have t25 := T.t25; have a25 := T.a25; have z25 := T.z25; have v25 := T.v25
 have t39 := T.t39; have a39 := T.a39; have z39 := T.z39; have v39 := T.v39
 have aE := T.aE; have zE := T.zE
 have S0 : Aside (SWK enc k w0 blk off d w) := S
 have HC : Aside _ := hcmp
 have hdl : d.size = pre.length + 1 + B.length + post.length := by
  have := congrArg List.length hd
  simp at this; omega
 have HD : Hid _ := hd
 have HO : Aside _ := And.intro hsB hx
 clear S hd hcmp hsB hx
 obtain ⟨a, ha⟩ : ∃ a, a = pre.length := ⟨_, rfl⟩
 obtain ⟨m, hm⟩ : ∃ m, m = a + 1 := ⟨_, rfl⟩
 obtain ⟨b, hb⟩ : ∃ b, b = m + B.length := ⟨_, rfl⟩
 rw [← ha] at hx1 hy hz hdl
 rw [← hm] at hy hz hdl
 rw [← hb] at hz hdl
 have hbd : b ≤ d.size := by omega
 have hmb : m < b := by omega
 have ha1 : d[a]! = xa := by
  have := arr_at (d := d) HD.out 0 (by simp)
  rw [← ha] at this; simpa using this
 have hb1 : ∀ t, m ≤ t → t < b → d[t]! = B[t - m]! := fun t ht1 ht2 => by
  have := arr_at (d := d) (p := pre ++ [xa]) (q := B ++ post) (by rw [HD.out]; simp) (t - m) (by simp; omega)
  rw [List.length_append, ← ha, List.length_singleton, ← hm, show m + (t - m) = t by omega] at this
  rw [this, getElem!_pos _ _ (by simp; omega), getElem!_pos _ _ (by omega), List.getElem_append_left (by omega)]
 have hxd : ∀ t, m ≤ t → t < b → ltOf cf d[t]! xa = Rr d[t]! xa := fun t ht1 ht2 => by
  refine HO.out.2 _ ?_
  rw [hb1 t ht1 ht2, getElem!_pos _ _ (by omega)]
  exact List.getElem_mem _
 have HX : Aside _ := hxd
 have HAB : Aside _ := And.intro ha (And.intro hb (And.intro ha1 hb1))
 subst hx1 hy hz hn
 have hm1 : m ≤ a + 1 := by omega
 have hm2 : a + 1 ≤ m := by omega
 have hmz : (m : Int) - (a : Int) = 1 := by omega
 clear ha hb hdl ha1 hb1 hxd hm
 go_enter F2, Try.ntmps60
 go_wp2
 go_loopg [10, 11] (b - m) (fun kx s10 s11 wr => ∃ (i j : Nat), s10 = .int .i64 i ∧ s11 = .int .i64 j ∧ m ≤ i ∧ i ≤ j ∧ j ≤ b ∧ j - i ≤ kx ∧
  Aside ((i = m ∨ Rr d[i - 1]! xa = true) ∧ (j = b ∨ Rr d[j]! xa = false)) ∧ Aside (SWK enc k w0 blk off d wr))
 case atStart => exact ⟨m, b, rfl, rfl, by omega, by omega, by omega, Nat.le_refl _, ⟨.inl rfl, .inl rfl⟩, S0⟩
 case round =>
  clear S0
  obtain ⟨i, j, rfl, rfl, hmi, hij, hjb, hkx, HI, S1⟩ := hrel
  by_cases hlt : i < j
  ·obtain ⟨h, hh⟩ : ∃ h, h = (i + j) / 2 := ⟨_, rfl⟩
   have hltz : (i : Int) < (j : Int) := by omega
   have hz : ((i : Int) + (j : Int)) / 2 = (h : Int) := by omega
   have hih : i ≤ h := by omega
   have hhj : h < j := by omega
   clear hh
   have ea112 : ((h : Int)).toNat = h := by omega
   have pa112 : (0 : Int) ≤ (h : Int) := by omega
   have ba112 : (h : Int) < (d.size : Int) := by omega
   have ra112 : IntKind.i64.wrap ((h : Int)) = (h : Int) := by rw [IntKind.wrap_i64]; omega
   have ec112 : ((a : Int)).toNat = a := by omega
   have pc112 : (0 : Int) ≤ (a : Int) := by omega
   have bc112 : (a : Int) < (d.size : Int) := by omega
   have rc112 : IntKind.i64.wrap ((a : Int)) = (a : Int) := by rw [IntKind.wrap_i64]; omega
   obtain ⟨x112, hx112⟩ : ∃ x, x = d[h]! := ⟨_, rfl⟩
   have l112a := S1.out.ld R (by omega) P h (by omega)
   have l112b := S1.out.ld R (by omega) P a (by omega)
   rw [← hx112] at l112a
   rw [HAB.out.2.2.1] at l112b
   have hc112 := S1.out.cmp HC.out (by omega) x112 xa
   have HX1 : Aside (ltOf cf x112 xa = Rr x112 xa) := by show _ = _; rw [hx112]; exact HX.out h (by omega) (by omega)
   have HX2 : Aside (x112 = d[h]!) := hx112
   clear hx112
   cases hlv : ltOf cf x112 xa with
   | true =>
    have hv112 : cf x112 xa < 0 := of_decide_eq_true hlv
    have hd112 : decide (cf x112 xa < 0) = true := decide_eq_true hv112
    have HL : Hid _ := hlv
    clear hlv
    go_wp2_with fail
    go_quiet_grown (first | (go_at_fn g; refine Calls.grown_of (hc112 _ _)))
    have S2 : Aside (SWK enc k w0 blk off d (grow (wr.drewN nq) osq)) := S1.out.grown nq osq
    clear l112a l112b hc112 S1
    generalize grow (wr.drewN nq) osq = wu2 at S2 ⊢
    clear nq osq
    go_wp2
    go_roundg (j - (h + 1))
    case measure => omega
    case rel => exact ⟨h + 1, j, by go_num, rfl, by omega, by omega, by omega, Nat.le_refl _, ⟨.inr (by rw [Nat.add_sub_cancel, ← HX2.out, ← HX1.out]; exact HL.out), HI.out.2⟩, S2⟩
   | false =>
    have hv112 : ¬ cf x112 xa < 0 := of_decide_eq_false hlv
    have hd112 : decide (cf x112 xa < 0) = false := decide_eq_false hv112
    have HL : Hid _ := hlv
    clear hlv
    go_wp2_with fail
    go_quiet_grown (first | (go_at_fn g; refine Calls.grown_of (hc112 _ _)))
    have S2 : Aside (SWK enc k w0 blk off d (grow (wr.drewN nq) osq)) := S1.out.grown nq osq
    clear l112a l112b hc112 S1
    generalize grow (wr.drewN nq) osq = wu2 at S2 ⊢
    clear nq osq
    go_wp2
    go_roundg (h - i)
    case measure => omega
    case rel => exact ⟨i, h, rfl, rfl, by omega, by omega, by omega, Nat.le_refl _, ⟨HI.out.1, .inr (by rw [← HX2.out, ← HX1.out]; exact HL.out)⟩, S2⟩
  ·obtain rfl : i = j := by omega
   have hltz : ¬ (i : Int) < (i : Int) := by omega
   have hi1 : 0 < i := by omega
   have hi2 : (0 : Int) < (i : Int) := by omega
   go_wp2
   go_loopg [13] (i - m) (fun kx s13 wr => ∃ (t : Nat) (dk : Array α), s13 = .int .i64 ((a : Int) + (t : Int)) ∧ t ≤ i - m ∧ i - m - t ≤ kx ∧ dk.size = d.size ∧
    Aside (dk.toList = pre ++ (B.take t ++ (xa :: (B.drop t ++ post)))) ∧ Aside (SWK enc k w0 blk off dk wr))
   case atStart => exact ⟨0, d, by go_num, by omega, by omega, rfl, HD.out, S1⟩
   case round =>
    clear S1
    obtain ⟨t, dk, rfl, htm, hkx2, hds, HL, S1⟩ := hrel
    by_cases htl : t < i - m
    ·have hltz : (a : Int) + (t : Int) < (i : Int) - 1 := by omega
     have ea44 : ((a : Int) + (t : Int)).toNat = a + t := by omega
     have pa44 : (0 : Int) ≤ (a : Int) + (t : Int) := by omega
     have ba44 : (a : Int) + (t : Int) < (d.size : Int) := by omega
     have ra44 : IntKind.i64.wrap ((a : Int) + (t : Int)) = (a : Int) + (t : Int) := by rw [IntKind.wrap_i64]; omega
     have ec44 : ((a : Int) + (t : Int) + 1).toNat = a + t + 1 := by omega
     have pc44 : (0 : Int) ≤ (a : Int) + (t : Int) + 1 := by omega
     have bc44 : (a : Int) + (t : Int) + 1 < (d.size : Int) := by omega
     have rc44 : IntKind.i64.wrap ((a : Int) + (t : Int) + 1) = (a : Int) + (t : Int) + 1 := by rw [IntKind.wrap_i64]; omega
     go_wp2_with fail
     have S2 : Aside (SWK enc k w0 blk off (swp dk (a + t) (a + t + 1)) ((wr.drew.setCells blk (off + (a + t) * k) (enc dk[a + t + 1]!)).setCells blk (off + (a + t + 1) * k) (enc dk[a + t]!))) := S1.out.swapped R (a + t) (a + t + 1) (by omega) (by omega)
     have l44a := S1.out.ld1 R (by omega) P (a + t) (by omega)
     have l44b := S1.out.ld1 R (by omega) P (a + t + 1) (by omega)
     have s44a := S1.out.st1 R (by omega) P (a + t) (by omega) dk[a + t + 1]!
     have s44b := S1.out.st2 R (by omega) P (a + t) (a + t + 1) (by omega) (by omega) dk[a + t + 1]! dk[a + t]!
     have n44a : (enc dk[a + t]!).length = k := R.hk _
     have n44b : (enc dk[a + t + 1]!).length = k := R.hk _
     generalize enc dk[a + t]! = cI44 at S2 l44a s44b n44a
     generalize enc dk[a + t + 1]! = cJ44 at S2 l44b s44a s44b n44b
     clear S1
     go_big_region_o
     clear l44a l44b s44a s44b
     generalize (wr.drew.setCells blk (off + (a + t) * k) cJ44).setCells blk (off + (a + t + 1) * k) cI44 = w2 at S2 ⊢
     go_wp2
     go_roundg (i - m - (t + 1))
     case measure => omega
     case rel =>
      refine ⟨t + 1, swp dk (a + t) (a + t + 1), by go_num, by omega, Nat.le_refl _, by rw [size_swp]; exact hds, ?_, S2⟩
      obtain ⟨g1, g2, g3, g4⟩ := HAB.out
      have htB : t < B.length := by omega
      have hsw := swp_list (d := dk) (p := pre ++ B.take t) (q := []) (r := B.drop (t + 1) ++ post) (x := xa) (y := B[t]!) (i := a + t) (j := a + t + 1) (by rw [HL.out, cut_at B t htB]; simp) (by simp; omega) (by simp; omega)
      show _ = _
      rw [hsw, take_at B t htB]; simp
    ·have hltz : ¬ (a : Int) + (t : Int) < (i : Int) - 1 := by omega
     go_wp2
     (try simp only [Exit.inBlock, Exit.then]); refine bodyPost_ret (results_none rfl _ _ _) rfl ?_
     obtain ⟨g1, g2, g3, g4⟩ := HAB.out
     have ht : t = i - m := by omega
     refine ⟨rfl, B.take t ++ xa :: B.drop t, dk, hds, ?_, ?_, by rw [HL.out]; simp, S1.out⟩
     ·refine List.perm_middle.trans ?_
      rw [List.take_append_drop]
     ·refine merge_one_left hO (by rw [List.take_append_drop]; exact HO.out.1) ?_ ?_
      ·rcases HI.out.1 with h1 | h1
       ·exact .inl (by rw [ht, h1, Nat.sub_self]; rfl)
       ·by_cases h0 : t = 0
        ·exact .inl (by rw [h0]; rfl)
        ·obtain ⟨t', rfl⟩ : ∃ t', t = t' + 1 := ⟨t - 1, by omega⟩
         refine .inr ⟨B.take t', B[t']!, take_at B t' (by omega), ?_⟩
         rw [g4 (i - 1) (by omega) (by omega)] at h1
         rwa [show i - 1 - m = t' by omega] at h1
      ·rcases HI.out.2 with h1 | h1
       ·exact .inl (List.drop_eq_nil_of_le (by omega))
       ·by_cases h0 : i = b
        ·exact .inl (List.drop_eq_nil_of_le (by omega))
        ·refine .inr ⟨B[t]!, B.drop (t + 1), cut_at B t (by omega), ?_⟩
         rw [g4 i (by omega) (by omega)] at h1
         rwa [← ht] at h1
end Go.Proofs.Ythlingholhjcnaa
namespace Go.Proofs.Ythlingholhjcnaa
open Go.Shelf Go.RowKit Go.Lib Go.Sort
variable {P : Program} {k : Nat} {α : Type} [Inhabited α]
set_option maxHeartbeats 8000000 in
set_option maxRecDepth 1000000 in
theorem symMerge_last (T : StT P k) (F2 : P.funcs[60]? = some Try.f60) (enc : α → List Value) (cf : α → α → Int) (Rr : α → α → Bool) (hO : SWO Rr) (g : Nat) (cb : Array Value) (blk off cap : Nat) (d0 d : Array α) (w0 w : World)
  (eg : ∀ args w, (callFunc g args).run P w = .ok (.enter g args) w) (hcmp : CmpLays P g cb enc k cf blk off d0.size w0)
  (R : RowK enc k w0 blk off d0) (hs : d0.size = d.size) (S : SWK enc k w0 blk off d w) (hsz : d.size < 2305843009213693952)
  (pre A : List α) (yb : α) (post : List α) (hd : d.toList = pre ++ (A ++ (yb :: post))) (hA : 1 < A.length) (hsA : Srt Rr A) (hx : ∀ x ∈ A, ltOf cf yb x = Rr yb x)
  (n : Nat) (hn : n = d.size) {x y z : Int} (hx1 : x = (pre.length : Nat)) (hy : y = (pre.length + A.length : Nat)) (hz : z = (pre.length + A.length + 1 : Nat)) :
  Calls P 60 #[.slice (some ⟨blk, off, none⟩) n cap, .int .i64 x, .int .i64 y, .int .i64 z, .func (.func g) #[] cb] w fun e w' =>
   e = .returned (.tuple #[]) ∧ ∃ (C : List α) (d' : Array α), d'.size = d.size ∧ C.Perm (A ++ [yb]) ∧ Srt Rr C ∧ d'.toList = pre ++ (C ++ post) ∧ SWK enc k w0 blk off d' w' := by
 have mixed := T.mixed; have t0 := T.t0; have a0 := T.a0; have z0 := T.z0; have v0 := T.v0; have t3 := T.t3; have a3 := T.a3; have z3 := T.z3; have v3 := T.v3; have t4 := T.t4; have a4 := T.a4; have z4 := T.z4; have v4 := T.v4; have t22 := T.t22; have a22 := T.a22; have z22 := T.z22; have v22 := T.v22; have t25 := T.t25; have a25 := T.a25; have z25 := T.z25; have v25 := T.v25
 have t39 := T.t39; have a39 := T.a39; have z39 := T.z39; have v39 := T.v39
 have aE := T.aE; have zE := T.zE
 have S0 : Aside (SWK enc k w0 blk off d w) := S
 have HC : Aside _ := hcmp
 have hdl : d.size = pre.length + A.length + 1 + post.length := by
  have := congrArg List.length hd
  simp at this; omega
 have HD : Hid _ := hd
 have HO : Aside _ := And.intro hsA hx
 clear S hd hcmp hsA hx
 obtain ⟨a, ha⟩ : ∃ a, a = pre.length := ⟨_, rfl⟩
 obtain ⟨m, hm⟩ : ∃ m, m = a + A.length := ⟨_, rfl⟩
 obtain ⟨b, hb⟩ : ∃ b, b = m + 1 := ⟨_, rfl⟩
 rw [← ha] at hx1 hy hz hdl
 rw [← hm] at hy hz hdl
 rw [← hb] at hz hdl
 have hbd : b ≤ d.size := by omega
 have hmb : a + 1 < m := by omega
 have ha1 : d[m]! = yb := by
  have := arr_at (d := d) (p := pre ++ A) (q := yb :: post) (by rw [HD.out]; simp) 0 (by simp)
  rw [List.length_append, ← ha, ← hm] at this; simpa using this
 have hb1 : ∀ t, a ≤ t → t < m → d[t]! = A[t - a]! := fun t ht1 ht2 => by
  have := arr_at (d := d) (p := pre) (q := A ++ (yb :: post)) HD.out (t - a) (by simp; omega)
  rw [← ha, show a + (t - a) = t by omega] at this
  rw [this, getElem!_pos _ _ (by simp; omega), getElem!_pos _ _ (by omega), List.getElem_append_left (by omega)]
 have hxd : ∀ t, a ≤ t → t < m → ltOf cf yb d[t]! = Rr yb d[t]! := fun t ht1 ht2 => by
  refine HO.out.2 _ ?_
  rw [hb1 t ht1 ht2, getElem!_pos _ _ (by omega)]
  exact List.getElem_mem _
 have HX : Aside _ := hxd
 have HAB : Aside _ := And.intro ha (And.intro hm (And.intro ha1 hb1))
 subst hx1 hy hz hn
 have hm1 : b ≤ m + 1 := by omega
 have hm2 : m + 1 ≤ b := by omega
 have hmz : (b : Int) - (m : Int) = 1 := by omega
 have hmz2 : ¬ (m : Int) - (a : Int) = 1 := by omega
 have hmz3 : ((m : Int) - (a : Int) == 1) = false := beq_eq_false_iff_ne.2 hmz2
 have hmz4 : ((b : Int) - (m : Int) == 1) = true := beq_iff_eq.2 hmz
 clear ha hm hdl ha1 hb1 hxd hb
 go_enter F2, Try.ntmps60
 go_wp2
 go_loopg [14, 15] (m - a) (fun kx s10 s11 wr => ∃ (i j : Nat), s10 = .int .i64 i ∧ s11 = .int .i64 j ∧ a ≤ i ∧ i ≤ j ∧ j ≤ m ∧ j - i ≤ kx ∧
  Aside ((i = a ∨ Rr yb d[i - 1]! = false) ∧ (j = m ∨ Rr yb d[j]! = true)) ∧ Aside (SWK enc k w0 blk off d wr))
 case atStart => exact ⟨a, m, rfl, rfl, by omega, by omega, by omega, Nat.le_refl _, ⟨.inl rfl, .inl rfl⟩, S0⟩
 case round =>
  clear S0
  obtain ⟨i, j, rfl, rfl, hmi, hij, hjb, hkx, HI, S1⟩ := hrel
  by_cases hlt : i < j
  ·obtain ⟨h, hh⟩ : ∃ h, h = (i + j) / 2 := ⟨_, rfl⟩
   have hltz : (i : Int) < (j : Int) := by omega
   have hz : ((i : Int) + (j : Int)) / 2 = (h : Int) := by omega
   have hih : i ≤ h := by omega
   have hhj : h < j := by omega
   clear hh
   have ea112 : ((h : Int)).toNat = h := by omega
   have pa112 : (0 : Int) ≤ (h : Int) := by omega
   have ba112 : (h : Int) < (d.size : Int) := by omega
   have ra112 : IntKind.i64.wrap ((h : Int)) = (h : Int) := by rw [IntKind.wrap_i64]; omega
   have ec112 : ((m : Int)).toNat = m := by omega
   have pc112 : (0 : Int) ≤ (m : Int) := by omega
   have bc112 : (m : Int) < (d.size : Int) := by omega
   have rc112 : IntKind.i64.wrap ((m : Int)) = (m : Int) := by rw [IntKind.wrap_i64]; omega
   obtain ⟨x112, hx112⟩ : ∃ x, x = d[h]! := ⟨_, rfl⟩
   have l112a := S1.out.ld R (by omega) P h (by omega)
   have l112b := S1.out.ld R (by omega) P m (by omega)
   rw [← hx112] at l112a
   rw [HAB.out.2.2.1] at l112b
   have hc112 := S1.out.cmp HC.out (by omega) yb x112
   have HX1 : Aside (ltOf cf yb x112 = Rr yb x112) := by show _ = _; rw [hx112]; exact HX.out h (by omega) (by omega)
   have HX2 : Aside (x112 = d[h]!) := hx112
   clear hx112
   cases hlv : ltOf cf yb x112 with
   | false =>
    have hv112 : ¬ cf yb x112 < 0 := of_decide_eq_false hlv
    have hd112 : decide (cf yb x112 < 0) = false := decide_eq_false hv112
    have HL : Hid _ := hlv
    clear hlv
    go_wp2_with fail
    go_quiet_grown (first | (go_at_fn g; refine Calls.grown_of (hc112 _ _)))
    have S2 : Aside (SWK enc k w0 blk off d (grow (wr.drewN nq) osq)) := S1.out.grown nq osq
    clear l112a l112b hc112 S1
    generalize grow (wr.drewN nq) osq = wu2 at S2 ⊢
    clear nq osq
    go_wp2
    go_roundg (j - (h + 1))
    case measure => omega
    case rel => exact ⟨h + 1, j, by go_num, rfl, by omega, by omega, by omega, Nat.le_refl _, ⟨.inr (by rw [Nat.add_sub_cancel, ← HX2.out, ← HX1.out]; exact HL.out), HI.out.2⟩, S2⟩
   | true =>
    have hv112 : cf yb x112 < 0 := of_decide_eq_true hlv
    have hd112 : decide (cf yb x112 < 0) = true := decide_eq_true hv112
    have HL : Hid _ := hlv
    clear hlv
    go_wp2_with fail
    go_quiet_grown (first | (go_at_fn g; refine Calls.grown_of (hc112 _ _)))
    have S2 : Aside (SWK enc k w0 blk off d (grow (wr.drewN nq) osq)) := S1.out.grown nq osq
    clear l112a l112b hc112 S1
    generalize grow (wr.drewN nq) osq = wu2 at S2 ⊢
    clear nq osq
    go_wp2
    go_roundg (h - i)
    case measure => omega
    case rel => exact ⟨i, h, rfl, rfl, by omega, by omega, by omega, Nat.le_refl _, ⟨HI.out.1, .inr (by rw [← HX2.out, ← HX1.out]; exact HL.out)⟩, S2⟩
  ·obtain rfl : i = j := by omega
   have hltz : ¬ (i : Int) < (i : Int) := by omega
   go_wp2
   go_loopg [17] (m - i) (fun kx s13 wr => ∃ (K : Nat) (dk : Array α), s13 = .int .i64 (K : Int) ∧ i ≤ K ∧ K ≤ m ∧ K - i ≤ kx ∧ dk.size = d.size ∧
    Aside (dk.toList = pre ++ (A.take (K - a) ++ (yb :: (A.drop (K - a) ++ post)))) ∧ Aside (SWK enc k w0 blk off dk wr))
   case atStart => exact ⟨m, d, rfl, by omega, by omega, by omega, rfl, by
    show _ = _
    rw [HD.out, List.take_of_length_le (by have := HAB.out.2.1; omega), List.drop_eq_nil_of_le (by have := HAB.out.2.1; omega)]; simp, S1⟩
   case round =>
    clear S1
    obtain ⟨K, dk, rfl, hiK, hKm, hkx2, hds, HL, S1⟩ := hrel
    by_cases htl : i < K
    ·obtain ⟨t, rfl⟩ : ∃ t, K = t + 1 := ⟨K - 1, by omega⟩
     have hltz : (i : Int) < (t : Int) + 1 := by omega
     have ea44 : ((t : Int) + 1).toNat = t + 1 := by omega
     have pa44 : (0 : Int) ≤ (t : Int) + 1 := by omega
     have ba44 : (t : Int) + 1 < (d.size : Int) := by omega
     have ra44 : IntKind.i64.wrap ((t : Int)) = (t : Int) := by rw [IntKind.wrap_i64]; omega
     have ba45 : (t : Int) < (d.size : Int) := by omega
     go_wp2_with fail
     have S2 : Aside (SWK enc k w0 blk off (swp dk (t + 1) t) ((wr.drew.setCells blk (off + (t + 1) * k) (enc dk[t]!)).setCells blk (off + t * k) (enc dk[t + 1]!))) := S1.out.swapped R (t + 1) t (by omega) (by omega)
     have l44a := S1.out.ld1 R (by omega) P (t + 1) (by omega)
     have l44b := S1.out.ld1 R (by omega) P t (by omega)
     have s44a := S1.out.st1 R (by omega) P (t + 1) (by omega) dk[t]!
     have s44b := S1.out.st2 R (by omega) P (t + 1) t (by omega) (by omega) dk[t]! dk[t + 1]!
     have n44a : (enc dk[t + 1]!).length = k := R.hk _
     have n44b : (enc dk[t]!).length = k := R.hk _
     generalize enc dk[t + 1]! = cI44 at S2 l44a s44b n44a
     generalize enc dk[t]! = cJ44 at S2 l44b s44a s44b n44b
     clear S1
     go_big_region_o
     clear l44a l44b s44a s44b
     generalize (wr.drew.setCells blk (off + (t + 1) * k) cJ44).setCells blk (off + t * k) cI44 = w2 at S2 ⊢
     go_wp2
     go_roundg (t - i)
     case measure => omega
     case rel =>
      refine ⟨t, swp dk (t + 1) t, by go_num, by omega, by omega, Nat.le_refl _, by rw [size_swp]; exact hds, ?_, S2⟩
      obtain ⟨g1, g2, g3, g4⟩ := HAB.out
      have htA : t - a < A.length := by omega
      have e1 : t + 1 - a = (t - a) + 1 := by omega
      have hsw := swp_list' (d := dk) (p := pre ++ A.take (t - a)) (q := []) (r := A.drop (t - a + 1) ++ post) (x := A[t - a]!) (y := yb) (i := t + 1) (j := t) (by rw [HL.out, e1, take_at A _ htA]; simp) (by simp; omega) (by simp; omega)
      show _ = _
      rw [hsw, cut_at A (t - a) htA]; simp
    ·have hltz : ¬ (i : Int) < (K : Int) := by omega
     go_wp2
     (try simp only [Exit.inBlock, Exit.then]); refine bodyPost_ret (results_none rfl _ _ _) rfl ?_
     obtain ⟨g1, g2, g3, g4⟩ := HAB.out
     obtain rfl : K = i := by omega
     refine ⟨rfl, A.take (K - a) ++ yb :: A.drop (K - a), dk, hds, ?_, ?_, by rw [HL.out]; simp, S1.out⟩
     ·refine (List.perm_middle.trans ?_).trans (List.perm_append_singleton yb A).symm
      rw [List.take_append_drop]
     ·refine merge_one_right hO (by rw [List.take_append_drop]; exact HO.out.1) ?_ ?_
      ·rcases HI.out.1 with h1 | h1
       ·exact .inl (by rw [h1, Nat.sub_self]; rfl)
       ·by_cases h0 : K = a
        ·exact .inl (by rw [h0, Nat.sub_self]; rfl)
        ·obtain ⟨t', ht'⟩ : ∃ t', K - a = t' + 1 := ⟨K - a - 1, by omega⟩
         refine .inr ⟨A.take t', A[t']!, by rw [ht']; exact take_at A t' (by omega), ?_⟩
         rw [g4 (K - 1) (by omega) (by omega)] at h1
         rwa [show K - 1 - a = t' by omega] at h1
      ·rcases HI.out.2 with h1 | h1
       ·exact .inl (List.drop_eq_nil_of_le (by omega))
       ·by_cases h0 : K = m
        ·exact .inl (List.drop_eq_nil_of_le (by omega))
        ·refine .inr ⟨A[K - a]!, A.drop (K - a + 1), cut_at A (K - a) (by omega), ?_⟩
         rwa [g4 K (by omega) (by omega)] at h1
end Go.Proofs.Ythlingholhjcnaa
namespace Go.Proofs.Ythlingholhjcnaa
open Go.Shelf Go.RowKit Go.Lib Go.Sort
variable {P : Program} {k : Nat} {α : Type} [Inhabited α]
def SymC (P : Program) (enc : α → List Value) (k : Nat) (cf : α → α → Int) (Rr : α → α → Bool) (g : Nat) (cb : Array Value) (blk off cap : Nat) (d0 : Array α) (w0 : World) (N : Nat) : Prop :=
 ∀ (d : Array α) (w : World) (pre A B post : List α), d0.size = d.size → SWK enc k w0 blk off d w → d.toList = pre ++ (A ++ (B ++ post)) → A.length + B.length < N → 0 < A.length → 0 < B.length → Srt Rr A → Srt Rr B → (∀ x ∈ A, ∀ y ∈ B, ltOf cf y x = Rr y x) →
 ∀ (n : Nat) (x y z : Int), n = d.size → x = (pre.length : Nat) → y = (pre.length + A.length : Nat) → z = (pre.length + A.length + B.length : Nat) →
  Calls P 60 #[.slice (some ⟨blk, off, none⟩) n cap, .int .i64 x, .int .i64 y, .int .i64 z, .func (.func g) #[] cb] w fun e w' =>
   e = .returned (.tuple #[]) ∧ ∃ (C : List α) (d' : Array α), d'.size = d.size ∧ C.Perm (A ++ B) ∧ Srt Rr C ∧ d'.toList = pre ++ (C ++ post) ∧ SWK enc k w0 blk off d' w'
structure SymK (Rr : α → α → Bool) (A B A1 A2 B1 B2 : List α) (a s m e b : Nat) : Prop where
 hA : A = A1 ++ A2
 hB : B = B1 ++ B2
 l1 : a + A1.length = s
 l2 : s + A2.length = m
 l3 : m + B1.length = e
 l4 : e + B2.length = b
 s1 : Srt Rr A1
 s2 : Srt Rr A2
 s3 : Srt Rr B1
 s4 : Srt Rr B2
 cr : ∀ x ∈ A1 ++ B1, ∀ y ∈ A2 ++ B2, Rr y x = false
theorem symK_of {d : Array α} {Rr : α → α → Bool} (hO : SWO Rr) {pre A B post : List α} {a m b s e : Nat} (hd : d.toList = pre ++ (A ++ (B ++ post))) (ha : a = pre.length) (hm : m = a + A.length) (hb : b = m + B.length) (hsA : Srt Rr A) (hsB : Srt Rr B)
  (h1 : a ≤ s) (h2 : s ≤ m) (h3 : m ≤ e) (h4 : e ≤ b) (k1 : s = a ∨ e = b ∨ Rr d[e]! d[s - 1]! = false) (k2 : s = m ∨ e = m ∨ Rr d[e - 1]! d[s]! = true) :
  ∃ A1 A2 B1 B2, SymK Rr A B A1 A2 B1 B2 a s m e b := by
 have gA : ∀ t, a ≤ t → t < m → d[t]! = A[t - a]! := fun t ht1 ht2 => by
  have := arr_at (d := d) (p := pre) (q := A ++ (B ++ post)) hd (t - a) (by simp; omega)
  rw [← ha, show a + (t - a) = t by omega] at this
  rw [this, getElem!_pos _ _ (by simp; omega), getElem!_pos _ _ (by omega), List.getElem_append_left (by omega)]
 have gB : ∀ t, m ≤ t → t < b → d[t]! = B[t - m]! := fun t ht1 ht2 => by
  have := arr_at (d := d) (p := pre ++ A) (q := B ++ post) (by rw [hd]; simp) (t - m) (by simp; omega)
  rw [List.length_append, ← ha, ← hm, show m + (t - m) = t by omega] at this
  rw [this, getElem!_pos _ _ (by simp; omega), getElem!_pos _ _ (by omega), List.getElem_append_left (by omega)]
 have eA : A = A.take (s - a) ++ A.drop (s - a) := (List.take_append_drop _ _).symm
 have eB : B = B.take (e - m) ++ B.drop (e - m) := (List.take_append_drop _ _).symm
 have oA := srt_app.1 (show Srt Rr (A.take (s - a) ++ A.drop (s - a)) by rw [← eA]; exact hsA)
 have oB := srt_app.1 (show Srt Rr (B.take (e - m) ++ B.drop (e - m)) by rw [← eB]; exact hsB)
 refine ⟨A.take (s - a), A.drop (s - a), B.take (e - m), B.drop (e - m), ⟨eA, eB, by simp; omega, by simp; omega, by simp; omega, by simp; omega, oA.1, oA.2.1, oB.1, oB.2.1, ?_⟩⟩
 refine merge_cut hO (by rw [← eA]; exact hsA) (by rw [← eB]; exact hsB) ?_ ?_
 ·by_cases c1 : s = a
  ·exact .inl (by rw [c1, Nat.sub_self]; rfl)
  by_cases c2 : e = b
  ·exact .inr (.inl (List.drop_eq_nil_of_le (by omega)))
  rcases k1 with h | h | h
  ·exact absurd h c1
  ·exact absurd h c2
  ·obtain ⟨t, ht⟩ : ∃ t, s - a = t + 1 := ⟨s - a - 1, by omega⟩
   refine .inr (.inr ⟨A.take t, A[t]!, B[e - m]!, B.drop (e - m + 1), by rw [ht]; exact take_at A t (by omega), cut_at B _ (by omega), ?_⟩)
   rw [gA (s - 1) (by omega) (by omega), gB e (by omega) (by omega)] at h
   rwa [show s - 1 - a = t by omega] at h
 ·by_cases c1 : s = m
  ·exact .inl (List.drop_eq_nil_of_le (by omega))
  by_cases c2 : e = m
  ·exact .inr (.inl (by rw [c2, Nat.sub_self]; rfl))
  rcases k2 with h | h | h
  ·exact absurd h c1
  ·exact absurd h c2
  ·obtain ⟨t, ht⟩ : ∃ t, e - m = t + 1 := ⟨e - m - 1, by omega⟩
   refine .inr (.inr ⟨A.drop (s - a + 1), A[s - a]!, B[t]!, B.take t, cut_at A _ (by omega), by rw [ht]; exact take_at B t (by omega), ?_⟩)
   rw [gA s (by omega) (by omega), gB (e - 1) (by omega) (by omega)] at h
   rw [show e - 1 - m = t by omega] at h
   exact swo_asymm hO h
set_option maxHeartbeats 16000000 in
set_option maxRecDepth 1000000 in
theorem symMerge_hi (T : StT P k) (F : P.funcs[65]? = some Try.f65) (F1 : P.funcs[64]? = some Try.f64) (F2 : P.funcs[60]? = some Try.f60) (enc : α → List Value) (cf : α → α → Int) (Rr : α → α → Bool) (hO : SWO Rr) (g : Nat) (cb : Array Value) (blk off cap : Nat) (d0 d : Array α) (w0 w : World)
  (eg : ∀ args w, (callFunc g args).run P w = .ok (.enter g args) w) (hcmp : CmpLays P g cb enc k cf blk off d0.size w0)
  (R : RowK enc k w0 blk off d0) (hs : d0.size = d.size) (S : SWK enc k w0 blk off d w) (hsz : d.size < 2305843009213693952) (N : Nat) (IH : SymC P enc k cf Rr g cb blk off cap d0 w0 N)
  (pre A B post : List α) (hd : d.toList = pre ++ (A ++ (B ++ post))) (hN : A.length + B.length ≤ N) (hA : 1 < A.length) (hB : 1 < B.length) (hsA : Srt Rr A) (hsB : Srt Rr B) (hx : ∀ x ∈ A, ∀ y ∈ B, ltOf cf y x = Rr y x)
  (n : Nat) (hn : n = d.size) {x y z : Int} (hx1 : x = (pre.length : Nat)) (hy : y = (pre.length + A.length : Nat)) (hz : z = (pre.length + A.length + B.length : Nat)) (hcase : (pre.length + (pre.length + A.length + B.length)) / 2 < pre.length + A.length) :
  Calls P 60 #[.slice (some ⟨blk, off, none⟩) n cap, .int .i64 x, .int .i64 y, .int .i64 z, .func (.func g) #[] cb] w fun e w' =>
   e = .returned (.tuple #[]) ∧ ∃ (C : List α) (d' : Array α), d'.size = d.size ∧ C.Perm (A ++ B) ∧ Srt Rr C ∧ d'.toList = pre ++ (C ++ post) ∧ SWK enc k w0 blk off d' w' := by
 have mixed := T.mixed; have t0 := T.t0; have a0 := T.a0; have z0 := T.z0; have v0 := T.v0; have t3 := T.t3; have a3 := T.a3; have z3 := T.z3; have v3 := T.v3; have t4 := T.t4; have a4 := T.a4; have z4 := T.z4; have v4 := T.v4; have t22 := T.t22; have a22 := T.a22; have z22 := T.z22; have v22 := T.v22; have t25 := T.t25; have a25 := T.a25; have z25 := T.z25; have v25 := T.v25
 have t39 := T.t39; have a39 := T.a39; have z39 := T.z39; have v39 := T.v39
 have aE := T.aE; have zE := T.zE
 have e64 : ∀ args w, (callFunc 64 args).run P w = .ok (.enter 64 args) w := enters_of F1 (by kernel_rfl) rfl
 have e60 : ∀ args w, (callFunc 60 args).run P w = .ok (.enter 60 args) w := enters_of F2 (by kernel_rfl) rfl
 have S0 : Aside (SWK enc k w0 blk off d w) := S
 have HC : Aside _ := hcmp
 have HIH : Aside _ := IH
 have hdl : d.size = pre.length + A.length + B.length + post.length := by
  have := congrArg List.length hd
  simp at this; omega
 have HD : Hid _ := hd
 have HO : Aside _ := And.intro hsA (And.intro hsB (And.intro hx hN))
 clear S hd hcmp hsA hsB hx IH hN
 obtain ⟨a, ha⟩ : ∃ a, a = pre.length := ⟨_, rfl⟩
 obtain ⟨m, hm⟩ : ∃ m, m = a + A.length := ⟨_, rfl⟩
 obtain ⟨b, hb⟩ : ∃ b, b = m + B.length := ⟨_, rfl⟩
 rw [← ha] at hx1 hy hz hdl hcase
 rw [← hm] at hy hz hdl hcase
 rw [← hb] at hz hdl hcase
 have hbd : b ≤ d.size := by omega
 have hb1 : ∀ t u, a ≤ t → t < m → m ≤ u → u < b → ltOf cf d[u]! d[t]! = Rr d[u]! d[t]! := fun t u ht1 ht2 hu1 hu2 => by
  have e1 : d[t]! = A[t - a]! := by
   have := arr_at (d := d) (p := pre) (q := A ++ (B ++ post)) HD.out (t - a) (by simp; omega)
   rw [← ha, show a + (t - a) = t by omega] at this
   rw [this, getElem!_pos _ _ (by simp; omega), getElem!_pos _ _ (by omega), List.getElem_append_left (by omega)]
  have e2 : d[u]! = B[u - m]! := by
   have := arr_at (d := d) (p := pre ++ A) (q := B ++ post) (by rw [HD.out]; simp) (u - m) (by simp; omega)
   rw [List.length_append, ← ha, ← hm, show m + (u - m) = u by omega] at this
   rw [this, getElem!_pos _ _ (by simp; omega), getElem!_pos _ _ (by omega), List.getElem_append_left (by omega)]
  rw [e1, e2]
  refine HO.out.2.2.1 _ ?_ _ ?_
  ·rw [getElem!_pos _ _ (by omega)]; exact List.getElem_mem _
  ·rw [getElem!_pos _ _ (by omega)]; exact List.getElem_mem _
 have HX : Aside _ := hb1
 have HAB : Aside _ := And.intro ha (And.intro hm hb)
 subst hx1 hy hz hn
 obtain ⟨mid, hmid⟩ : ∃ h, h = (a + b) / 2 := ⟨_, rfl⟩
 rw [← hmid] at hcase
 have hz : ((a : Int) + (b : Int)) / 2 = (mid : Int) := by omega
 have hmz1 : ((m : Int) - (a : Int) == 1) = false := beq_eq_false_iff_ne.2 (by omega)
 have hmz2 : ((b : Int) - (m : Int) == 1) = false := beq_eq_false_iff_ne.2 (by omega)
 have hmz3 : ¬ (m : Int) - (a : Int) = 1 := by omega
 have hmz4 : ¬ (b : Int) - (m : Int) = 1 := by omega
 have hma : a + 1 < m := by omega
 have hmb : m + 1 < b := by omega
 have hm1 : 2 * mid ≤ a + b := by omega
 have hm2 : a + b ≤ 2 * mid + 1 := by omega
 clear ha hm hdl hb1 hb hmid hA hB
 have hcz : (m : Int) > (mid : Int) := by omega
 go_enter F2, Try.ntmps60
 go_wp2
 go_loopg [20, 21] (b - a) (fun kx s10 s11 wr => ∃ (i j : Nat), s10 = .int .i64 i ∧ s11 = .int .i64 j ∧ (mid + m - b) ≤ i ∧ i ≤ j ∧ j ≤ mid ∧ j - i ≤ kx ∧
  Aside ((i = (mid + m - b) ∨ Rr d[mid + m - i]! d[i - 1]! = false) ∧ (j = mid ∨ Rr d[mid + m - 1 - j]! d[j]! = true)) ∧ Aside (SWK enc k w0 blk off d wr))
 case atStart => exact ⟨(mid + m - b), mid, by go_num, by go_num, by omega, by omega, by omega, by omega, ⟨.inl rfl, .inl rfl⟩, S0⟩
 case round =>
  clear S0
  obtain ⟨i, j, rfl, rfl, hmi, hij, hjb, hkx, HI, S1⟩ := hrel
  by_cases hlt : i < j
  ·obtain ⟨h, hh⟩ : ∃ h, h = (i + j) / 2 := ⟨_, rfl⟩
   have hltz : (i : Int) < (j : Int) := by omega
   have hzz : ((i : Int) + (j : Int)) / 2 = (h : Int) := by omega
   have hih : i ≤ h := by omega
   have hhj : h < j := by omega
   clear hh
   obtain ⟨q, hq⟩ : ∃ q, q = mid + m - 1 - h := ⟨_, rfl⟩
   have ha1 : a ≤ h := by omega
   have hb1 : h < m := by omega
   have hq1 : m ≤ q := by omega
   have hq2 : q < b := by omega
   have ea112 : ((q : Int)).toNat = q := by omega
   have pa112 : (0 : Int) ≤ (q : Int) := by omega
   have ba112 : (q : Int) < (d.size : Int) := by omega
   have hqz : (mid : Int) + (m : Int) - 1 - (h : Int) = (q : Int) := by omega
   have ra112 : IntKind.i64.wrap ((mid : Int) + (m : Int) - 1 - (h : Int)) = (q : Int) := by rw [IntKind.wrap_i64]; omega
   have ra113 : IntKind.i64.wrap ((q : Int)) = (q : Int) := by rw [IntKind.wrap_i64]; omega
   have ec112 : ((h : Int)).toNat = h := by omega
   have pc112 : (0 : Int) ≤ (h : Int) := by omega
   have bc112 : (h : Int) < (d.size : Int) := by omega
   have rc112 : IntKind.i64.wrap ((h : Int)) = (h : Int) := by rw [IntKind.wrap_i64]; omega
   have HQ : Aside _ := hq
   clear hq
   obtain ⟨x112, hx112⟩ : ∃ x, x = d[q]! := ⟨_, rfl⟩
   obtain ⟨y112, hy112⟩ : ∃ x, x = d[h]! := ⟨_, rfl⟩
   have l112a := S1.out.ld R (by omega) P q (by omega)
   have l112b := S1.out.ld R (by omega) P h (by omega)
   rw [← hx112] at l112a
   rw [← hy112] at l112b
   have hc112 := S1.out.cmp HC.out (by omega) x112 y112
   have HX1 : Aside (ltOf cf x112 y112 = Rr x112 y112) := by show _ = _; rw [hx112, hy112]; exact HX.out h q ha1 hb1 hq1 hq2
   have HX2 : Aside (x112 = d[q]! ∧ y112 = d[h]!) := ⟨hx112, hy112⟩
   clear hx112 hy112
   cases hlv : ltOf cf x112 y112 with
   | false =>
    have hv112 : ¬ cf x112 y112 < 0 := of_decide_eq_false hlv
    have hd112 : decide (cf x112 y112 < 0) = false := decide_eq_false hv112
    have HL : Hid _ := hlv
    clear hlv
    go_wp2_with fail
    go_quiet_grown (first | (go_at_fn g; refine Calls.grown_of (hc112 _ _)))
    have S2 : Aside (SWK enc k w0 blk off d (grow (wr.drewN nq) osq)) := S1.out.grown nq osq
    clear l112a l112b hc112 S1
    generalize grow (wr.drewN nq) osq = wu2 at S2 ⊢
    clear nq osq
    go_wp2
    go_roundg (j - (h + 1))
    case measure => omega
    case rel => exact ⟨h + 1, j, by go_num, rfl, by omega, by omega, by omega, Nat.le_refl _, ⟨.inr (by rw [Nat.add_sub_cancel, show mid + m - (h + 1) = q by have := HQ.out; omega, ← HX2.out.1, ← HX2.out.2, ← HX1.out]; exact HL.out), HI.out.2⟩, S2⟩
   | true =>
    have hv112 : cf x112 y112 < 0 := of_decide_eq_true hlv
    have hd112 : decide (cf x112 y112 < 0) = true := decide_eq_true hv112
    have HL : Hid _ := hlv
    clear hlv
    go_wp2_with fail
    go_quiet_grown (first | (go_at_fn g; refine Calls.grown_of (hc112 _ _)))
    have S2 : Aside (SWK enc k w0 blk off d (grow (wr.drewN nq) osq)) := S1.out.grown nq osq
    clear l112a l112b hc112 S1
    generalize grow (wr.drewN nq) osq = wu2 at S2 ⊢
    clear nq osq
    go_wp2
    go_roundg (h - i)
    case measure => omega
    case rel => exact ⟨i, h, rfl, rfl, by omega, by omega, by omega, Nat.le_refl _, ⟨HI.out.1, .inr (by rw [← HQ.out, ← HX2.out.1, ← HX2.out.2, ← HX1.out]; exact HL.out)⟩, S2⟩
  ·obtain rfl : i = j := by omega
   have hltz : ¬ (i : Int) < (i : Int) := by omega
   obtain ⟨e, he⟩ : ∃ e, e = mid + m - i := ⟨_, rfl⟩
   have hez : (mid : Int) + (m : Int) - (i : Int) = (e : Int) := by omega
   have h1 : a ≤ i := by omega
   have h2 : i ≤ m := by omega
   have h3 : m ≤ e := by omega
   have h4 : e ≤ b := by omega
   have h5 : mid + m ≤ e + i := by omega
   have h6 : e + i ≤ mid + m := by omega
   obtain ⟨A1, A2, B1, B2, KK⟩ := symK_of (s := i) (e := e) hO HD.out HAB.out.1 HAB.out.2.1 HAB.out.2.2 HO.out.1 HO.out.2.1 h1 h2 h3 h4
    (by rcases HI.out.1 with h | h; exact .inr (.inl (by omega)); exact .inr (.inr (by rw [he]; exact h))) (by rcases HI.out.2 with h | h; exact .inr (.inl (by omega)); exact .inr (.inr (by rw [show e - 1 = mid + m - 1 - i by omega]; exact h)))
   have hiz : ∀ x, x ∈ A1 → x ∈ A := fun x hx => by rw [KK.hA]; exact List.mem_append_left _ hx
   have hiz2 : ∀ x, x ∈ A2 → x ∈ A := fun x hx => by rw [KK.hA]; exact List.mem_append_right _ hx
   have hiz3 : ∀ x, x ∈ B1 → x ∈ B := fun x hx => by rw [KK.hB]; exact List.mem_append_left _ hx
   have hiz4 : ∀ x, x ∈ B2 → x ∈ B := fun x hx => by rw [KK.hB]; exact List.mem_append_right _ hx
   have hll := And.intro KK.l1 (And.intro KK.l2 (And.intro KK.l3 KK.l4))
   have HK : Aside _ := KK
   have HM : Aside _ := And.intro hiz (And.intro hiz2 (And.intro hiz3 hiz4))
   have HLL : Aside _ := hll
   have HPL : Aside (d.size < 2305843009213693952 ∧ A.length + B.length ≤ N ∧ a = pre.length ∧ m = a + A.length ∧ b = m + B.length) := ⟨hsz, HO.out.2.2.2, HAB.out⟩
   have HDL : Hid (d.toList = pre ++ (A1 ++ (A2 ++ (B1 ++ (B2 ++ post))))) := by show _ = _; rw [HD.out, KK.hA, KK.hB]; simp
   clear he KK hiz hiz2 hiz3 hiz4 hll
   have HE : Aside (e + i = mid + m) := by show _ = _; omega
   by_cases c1 : a < i
   ·have c1z : (a : Int) < (i : Int) := by omega
    have c2 : i < m := by omega
    have c2z : (i : Int) < (m : Int) := by omega
    have c2y : (mid : Int) < (e : Int) := by omega
    by_cases c3 : m < e
    ·have c3z : (m : Int) < (e : Int) := by omega
     have c3y : (i : Int) < (mid : Int) := by omega
     by_cases c4 : e < b
     ·have c4z : (e : Int) < (b : Int) := by omega
      have zz : True := trivial
      go_wp2_with fail
      go_at_fn 64
      refine (rotate_any T F F1 enc _ blk off cap d0 d w0 _ R hs S1.out (by omega) (pre ++ A1) A2 B1 (B2 ++ post) (by rw [HDL.out]; simp) (by have := HLL.out; omega) (by have := HLL.out; omega) d.size rfl (by have := HLL.out; have := HPL.out; simp; omega) (by have := HLL.out; have := HPL.out; simp; omega) (by have := HLL.out; have := HPL.out; simp; omega)).mono ?_
      rintro _ w1 ⟨rfl, d1, hd1, hl1, hw1⟩
      replace hl1 : Hid (d1.toList = pre ++ (A1 ++ (B1 ++ (A2 ++ (B2 ++ post))))) := by show _ = _; rw [hl1]; simp
      have SA : Aside _ := hw1
      have hds1 : d1.size ≤ d.size ∧ d.size ≤ d1.size := by omega
      clear hw1
      go_wp2_with fail
      go_at_fn 60
      refine (HIH.out d1 _ pre A1 B1 (A2 ++ (B2 ++ post)) (by omega) SA.out hl1.out (by have := HLL.out; have := HPL.out; omega) (by have := HLL.out; omega) (by have := HLL.out; omega) HK.out.s1 HK.out.s3 (fun x hx y hy => HO.out.2.2.1 x (HM.out.1 x hx) y (HM.out.2.2.1 y hy)) d.size _ _ _ (by omega) (by have := HLL.out; have := HPL.out; omega) (by have := HLL.out; have := HPL.out; omega) (by have := HLL.out; have := HPL.out; have := HE.out; omega)).mono ?_
      rintro _ w2 ⟨rfl, C1, d2, hd2, hp1, hs1, hl2, hw2⟩
      have SB : Aside _ := hw2
      have HP1 : Aside _ := And.intro hp1 hs1
      have HL2 : Hid _ := hl2
      have hds2 : d2.size ≤ d.size ∧ d.size ≤ d2.size := by omega
      have HC1 : Aside (C1.length = A1.length + B1.length) := by show _ = _; rw [hp1.length_eq]; simp
      clear hw2 hp1 hs1 hl2 hl1 SA hd2 hd1
      go_wp2_with fail
      go_at_fn 60
      refine (HIH.out d2 _ (pre ++ C1) A2 B2 post (by omega) SB.out (by rw [HL2.out]; simp) (by have := HLL.out; have := HPL.out; omega) (by have := HLL.out; omega) (by have := HLL.out; omega) HK.out.s2 HK.out.s4 (fun x hx y hy => HO.out.2.2.1 x (HM.out.2.1 x hx) y (HM.out.2.2.2 y hy)) d.size _ _ _ (by omega) (by have := HLL.out; have := HPL.out; have := HE.out; have := HC1.out; simp; omega) (by have := HLL.out; have := HPL.out; have := HE.out; have := HC1.out; simp; omega) (by have := HLL.out; have := HPL.out; have := HE.out; have := HC1.out; simp; omega)).mono ?_
      rintro _ w3 ⟨rfl, C2, d3, hd3, hp2, hs2, hl3, hw3⟩
      replace hl3 : Hid _ := hl3
      have HP2 : Aside _ := And.intro hp2 hs2
      clear hp2 hs2
      have SC : Aside _ := hw3
      clear hw3
      go_wp2
      all_goals go_end0
      all_goals obtain ⟨r1, r2⟩ := merge_join HK.out.cr HP1.out.1 HP2.out.1 HP1.out.2 HP2.out.2
      all_goals exact ⟨rfl, C1 ++ C2, d3, by omega, by rw [HK.out.hA, HK.out.hB]; exact r2, r1, by rw [hl3.out]; simp, SC.out⟩
     ·have c4z : ¬ (e : Int) < (b : Int) := by omega
      have zz : True := trivial
      go_wp2_with fail
      go_at_fn 64
      refine (rotate_any T F F1 enc _ blk off cap d0 d w0 _ R hs S1.out (by omega) (pre ++ A1) A2 B1 (B2 ++ post) (by rw [HDL.out]; simp) (by have := HLL.out; omega) (by have := HLL.out; omega) d.size rfl (by have := HLL.out; have := HPL.out; simp; omega) (by have := HLL.out; have := HPL.out; simp; omega) (by have := HLL.out; have := HPL.out; simp; omega)).mono ?_
      rintro _ w1 ⟨rfl, d1, hd1, hl1, hw1⟩
      replace hl1 : Hid (d1.toList = pre ++ (A1 ++ (B1 ++ (A2 ++ (B2 ++ post))))) := by show _ = _; rw [hl1]; simp
      have SA : Aside _ := hw1
      have hds1 : d1.size ≤ d.size ∧ d.size ≤ d1.size := by omega
      clear hw1
      go_wp2_with fail
      go_at_fn 60
      refine (HIH.out d1 _ pre A1 B1 (A2 ++ (B2 ++ post)) (by omega) SA.out hl1.out (by have := HLL.out; have := HPL.out; omega) (by have := HLL.out; omega) (by have := HLL.out; omega) HK.out.s1 HK.out.s3 (fun x hx y hy => HO.out.2.2.1 x (HM.out.1 x hx) y (HM.out.2.2.1 y hy)) d.size _ _ _ (by omega) (by have := HLL.out; have := HPL.out; omega) (by have := HLL.out; have := HPL.out; omega) (by have := HLL.out; have := HPL.out; have := HE.out; omega)).mono ?_
      rintro _ w2 ⟨rfl, C1, d2, hd2, hp1, hs1, hl2, hw2⟩
      have SB : Aside _ := hw2
      have HP1 : Aside _ := And.intro hp1 hs1
      have HL2 : Hid _ := hl2
      have hds2 : d2.size ≤ d.size ∧ d.size ≤ d2.size := by omega
      have HC1 : Aside (C1.length = A1.length + B1.length) := by show _ = _; rw [hp1.length_eq]; simp
      clear hw2 hp1 hs1 hl2 hl1 SA hd2 hd1
      obtain ⟨C2, d3, hd3, hp2, hs2, hl3, hw3⟩ : ∃ (C2 : List α) (d3 : Array α), d3.size = d2.size ∧ C2.Perm (A2 ++ B2) ∧ Srt Rr C2 ∧ Hid (d3.toList = (pre ++ C1) ++ (C2 ++ post)) ∧ SWK enc k w0 blk off d3 w2 := ⟨A2 ++ B2, d2, rfl, List.Perm.refl _, by
       rw [show B2 = [] from List.eq_nil_of_length_eq_zero (by have := HLL.out; omega)]; simpa using HK.out.s2, by show _ = _; rw [HL2.out]; simp, SB.out⟩
      have HP2 : Aside _ := And.intro hp2 hs2
      clear hp2 hs2
      have SC : Aside _ := hw3
      clear hw3
      go_wp2
      all_goals go_end0
      all_goals obtain ⟨r1, r2⟩ := merge_join HK.out.cr HP1.out.1 HP2.out.1 HP1.out.2 HP2.out.2
      all_goals exact ⟨rfl, C1 ++ C2, d3, by omega, by rw [HK.out.hA, HK.out.hB]; exact r2, r1, by rw [hl3.out]; simp, SC.out⟩
    ·have c3z : ¬ (m : Int) < (e : Int) := by omega
     have c3y : ¬ (i : Int) < (mid : Int) := by omega
     have c4 : e < b := by omega
     have c4z : (e : Int) < (b : Int) := by omega
     have zz : True := trivial
     obtain ⟨d1, hd1, hl1, hw1⟩ : ∃ d1 : Array α, d1.size = d.size ∧ Hid (d1.toList = pre ++ (A1 ++ (B1 ++ (A2 ++ (B2 ++ post))))) ∧ SWK enc k w0 blk off d1 wr := ⟨d, rfl, by
      show _ = _
      rw [HDL.out, show B1 = [] from List.eq_nil_of_length_eq_zero (by have := HLL.out; omega)]; simp, S1.out⟩
     have SA : Aside _ := hw1
     have hds1 : d1.size ≤ d.size ∧ d.size ≤ d1.size := by omega
     clear hw1
     obtain ⟨C1, d2, hd2, hp1, hs1, hl2, hw2⟩ : ∃ (C1 : List α) (d2 : Array α), d2.size = d1.size ∧ C1.Perm (A1 ++ B1) ∧ Srt Rr C1 ∧ d2.toList = pre ++ (C1 ++ (A2 ++ (B2 ++ post))) ∧ SWK enc k w0 blk off d2 wr := ⟨A1 ++ B1, d1, rfl, List.Perm.refl _, by
      rw [show B1 = [] from List.eq_nil_of_length_eq_zero (by have := HLL.out; omega)]; simpa using HK.out.s1, by rw [hl1.out]; simp, SA.out⟩
     have SB : Aside _ := hw2
     have HP1 : Aside _ := And.intro hp1 hs1
     have HL2 : Hid _ := hl2
     have hds2 : d2.size ≤ d.size ∧ d.size ≤ d2.size := by omega
     have HC1 : Aside (C1.length = A1.length + B1.length) := by show _ = _; rw [hp1.length_eq]; simp
     clear hw2 hp1 hs1 hl2 hl1 SA hd2 hd1
     go_wp2_with fail
     go_at_fn 60
     refine (HIH.out d2 _ (pre ++ C1) A2 B2 post (by omega) SB.out (by rw [HL2.out]; simp) (by have := HLL.out; have := HPL.out; omega) (by have := HLL.out; omega) (by have := HLL.out; omega) HK.out.s2 HK.out.s4 (fun x hx y hy => HO.out.2.2.1 x (HM.out.2.1 x hx) y (HM.out.2.2.2 y hy)) d.size _ _ _ (by omega) (by have := HLL.out; have := HPL.out; have := HE.out; have := HC1.out; simp; omega) (by have := HLL.out; have := HPL.out; have := HE.out; have := HC1.out; simp; omega) (by have := HLL.out; have := HPL.out; have := HE.out; have := HC1.out; simp; omega)).mono ?_
     rintro _ w3 ⟨rfl, C2, d3, hd3, hp2, hs2, hl3, hw3⟩
     replace hl3 : Hid _ := hl3
     have HP2 : Aside _ := And.intro hp2 hs2
     clear hp2 hs2
     have SC : Aside _ := hw3
     clear hw3
     go_wp2
     all_goals go_end0
     all_goals obtain ⟨r1, r2⟩ := merge_join HK.out.cr HP1.out.1 HP2.out.1 HP1.out.2 HP2.out.2
     all_goals exact ⟨rfl, C1 ++ C2, d3, by omega, by rw [HK.out.hA, HK.out.hB]; exact r2, r1, by rw [hl3.out]; simp, SC.out⟩
   ·have c1z : ¬ (a : Int) < (i : Int) := by omega
    have c2 : i < m := by omega
    have c2z : (i : Int) < (m : Int) := by omega
    have c2y : (mid : Int) < (e : Int) := by omega
    by_cases c3 : m < e
    ·have c3z : (m : Int) < (e : Int) := by omega
     have c3y : (i : Int) < (mid : Int) := by omega
     by_cases c4 : e < b
     ·have c4z : (e : Int) < (b : Int) := by omega
      have zz : True := trivial
      go_wp2_with fail
      go_at_fn 64
      refine (rotate_any T F F1 enc _ blk off cap d0 d w0 _ R hs S1.out (by omega) (pre ++ A1) A2 B1 (B2 ++ post) (by rw [HDL.out]; simp) (by have := HLL.out; omega) (by have := HLL.out; omega) d.size rfl (by have := HLL.out; have := HPL.out; simp; omega) (by have := HLL.out; have := HPL.out; simp; omega) (by have := HLL.out; have := HPL.out; simp; omega)).mono ?_
      rintro _ w1 ⟨rfl, d1, hd1, hl1, hw1⟩
      replace hl1 : Hid (d1.toList = pre ++ (A1 ++ (B1 ++ (A2 ++ (B2 ++ post))))) := by show _ = _; rw [hl1]; simp
      have SA : Aside _ := hw1
      have hds1 : d1.size ≤ d.size ∧ d.size ≤ d1.size := by omega
      clear hw1
      obtain ⟨C1, d2, hd2, hp1, hs1, hl2, hw2⟩ : ∃ (C1 : List α) (d2 : Array α), d2.size = d1.size ∧ C1.Perm (A1 ++ B1) ∧ Srt Rr C1 ∧ d2.toList = pre ++ (C1 ++ (A2 ++ (B2 ++ post))) ∧ SWK enc k w0 blk off d2 w1 := ⟨A1 ++ B1, d1, rfl, List.Perm.refl _, by
       rw [show A1 = [] from List.eq_nil_of_length_eq_zero (by have := HLL.out; omega)]; simpa using HK.out.s3, by rw [hl1.out]; simp, SA.out⟩
      have SB : Aside _ := hw2
      have HP1 : Aside _ := And.intro hp1 hs1
      have HL2 : Hid _ := hl2
      have hds2 : d2.size ≤ d.size ∧ d.size ≤ d2.size := by omega
      have HC1 : Aside (C1.length = A1.length + B1.length) := by show _ = _; rw [hp1.length_eq]; simp
      clear hw2 hp1 hs1 hl2 hl1 SA hd2 hd1
      go_wp2_with fail
      go_at_fn 60
      refine (HIH.out d2 _ (pre ++ C1) A2 B2 post (by omega) SB.out (by rw [HL2.out]; simp) (by have := HLL.out; have := HPL.out; omega) (by have := HLL.out; omega) (by have := HLL.out; omega) HK.out.s2 HK.out.s4 (fun x hx y hy => HO.out.2.2.1 x (HM.out.2.1 x hx) y (HM.out.2.2.2 y hy)) d.size _ _ _ (by omega) (by have := HLL.out; have := HPL.out; have := HE.out; have := HC1.out; simp; omega) (by have := HLL.out; have := HPL.out; have := HE.out; have := HC1.out; simp; omega) (by have := HLL.out; have := HPL.out; have := HE.out; have := HC1.out; simp; omega)).mono ?_
      rintro _ w3 ⟨rfl, C2, d3, hd3, hp2, hs2, hl3, hw3⟩
      replace hl3 : Hid _ := hl3
      have HP2 : Aside _ := And.intro hp2 hs2
      clear hp2 hs2
      have SC : Aside _ := hw3
      clear hw3
      go_wp2
      all_goals go_end0
      all_goals obtain ⟨r1, r2⟩ := merge_join HK.out.cr HP1.out.1 HP2.out.1 HP1.out.2 HP2.out.2
      all_goals exact ⟨rfl, C1 ++ C2, d3, by omega, by rw [HK.out.hA, HK.out.hB]; exact r2, r1, by rw [hl3.out]; simp, SC.out⟩
     ·have c4z : ¬ (e : Int) < (b : Int) := by omega
      have zz : True := trivial
      go_wp2_with fail
      go_at_fn 64
      refine (rotate_any T F F1 enc _ blk off cap d0 d w0 _ R hs S1.out (by omega) (pre ++ A1) A2 B1 (B2 ++ post) (by rw [HDL.out]; simp) (by have := HLL.out; omega) (by have := HLL.out; omega) d.size rfl (by have := HLL.out; have := HPL.out; simp; omega) (by have := HLL.out; have := HPL.out; simp; omega) (by have := HLL.out; have := HPL.out; simp; omega)).mono ?_
      rintro _ w1 ⟨rfl, d1, hd1, hl1, hw1⟩
      replace hl1 : Hid (d1.toList = pre ++ (A1 ++ (B1 ++ (A2 ++ (B2 ++ post))))) := by show _ = _; rw [hl1]; simp
      have SA : Aside _ := hw1
      have hds1 : d1.size ≤ d.size ∧ d.size ≤ d1.size := by omega
      clear hw1
      obtain ⟨C1, d2, hd2, hp1, hs1, hl2, hw2⟩ : ∃ (C1 : List α) (d2 : Array α), d2.size = d1.size ∧ C1.Perm (A1 ++ B1) ∧ Srt Rr C1 ∧ d2.toList = pre ++ (C1 ++ (A2 ++ (B2 ++ post))) ∧ SWK enc k w0 blk off d2 w1 := ⟨A1 ++ B1, d1, rfl, List.Perm.refl _, by
       rw [show A1 = [] from List.eq_nil_of_length_eq_zero (by have := HLL.out; omega)]; simpa using HK.out.s3, by rw [hl1.out]; simp, SA.out⟩
      have SB : Aside _ := hw2
      have HP1 : Aside _ := And.intro hp1 hs1
      have HL2 : Hid _ := hl2
      have hds2 : d2.size ≤ d.size ∧ d.size ≤ d2.size := by omega
      have HC1 : Aside (C1.length = A1.length + B1.length) := by show _ = _; rw [hp1.length_eq]; simp
      clear hw2 hp1 hs1 hl2 hl1 SA hd2 hd1
      obtain ⟨C2, d3, hd3, hp2, hs2, hl3, hw3⟩ : ∃ (C2 : List α) (d3 : Array α), d3.size = d2.size ∧ C2.Perm (A2 ++ B2) ∧ Srt Rr C2 ∧ Hid (d3.toList = (pre ++ C1) ++ (C2 ++ post)) ∧ SWK enc k w0 blk off d3 w1 := ⟨A2 ++ B2, d2, rfl, List.Perm.refl _, by
       rw [show B2 = [] from List.eq_nil_of_length_eq_zero (by have := HLL.out; omega)]; simpa using HK.out.s2, by show _ = _; rw [HL2.out]; simp, SB.out⟩
      have HP2 : Aside _ := And.intro hp2 hs2
      clear hp2 hs2
      have SC : Aside _ := hw3
      clear hw3
      go_wp2
      all_goals go_end0
      all_goals obtain ⟨r1, r2⟩ := merge_join HK.out.cr HP1.out.1 HP2.out.1 HP1.out.2 HP2.out.2
      all_goals exact ⟨rfl, C1 ++ C2, d3, by omega, by rw [HK.out.hA, HK.out.hB]; exact r2, r1, by rw [hl3.out]; simp, SC.out⟩
    ·have c3z : ¬ (m : Int) < (e : Int) := by omega
     have c3y : ¬ (i : Int) < (mid : Int) := by omega
     have c4 : e < b := by omega
     have c4z : (e : Int) < (b : Int) := by omega
     have zz : True := trivial
     obtain ⟨d1, hd1, hl1, hw1⟩ : ∃ d1 : Array α, d1.size = d.size ∧ Hid (d1.toList = pre ++ (A1 ++ (B1 ++ (A2 ++ (B2 ++ post))))) ∧ SWK enc k w0 blk off d1 wr := ⟨d, rfl, by
      show _ = _
      rw [HDL.out, show B1 = [] from List.eq_nil_of_length_eq_zero (by have := HLL.out; omega)]; simp, S1.out⟩
     have SA : Aside _ := hw1
     have hds1 : d1.size ≤ d.size ∧ d.size ≤ d1.size := by omega
     clear hw1
     obtain ⟨C1, d2, hd2, hp1, hs1, hl2, hw2⟩ : ∃ (C1 : List α) (d2 : Array α), d2.size = d1.size ∧ C1.Perm (A1 ++ B1) ∧ Srt Rr C1 ∧ d2.toList = pre ++ (C1 ++ (A2 ++ (B2 ++ post))) ∧ SWK enc k w0 blk off d2 wr := ⟨A1 ++ B1, d1, rfl, List.Perm.refl _, by
      rw [show A1 = [] from List.eq_nil_of_length_eq_zero (by have := HLL.out; omega)]; simpa using HK.out.s3, by rw [hl1.out]; simp, SA.out⟩
     have SB : Aside _ := hw2
     have HP1 : Aside _ := And.intro hp1 hs1
     have HL2 : Hid _ := hl2
     have hds2 : d2.size ≤ d.size ∧ d.size ≤ d2.size := by omega
     have HC1 : Aside (C1.length = A1.length + B1.length) := by show _ = _; rw [hp1.length_eq]; simp
     clear hw2 hp1 hs1 hl2 hl1 SA hd2 hd1
     go_wp2_with fail
     go_at_fn 60
     refine (HIH.out d2 _ (pre ++ C1) A2 B2 post (by omega) SB.out (by rw [HL2.out]; simp) (by have := HLL.out; have := HPL.out; omega) (by have := HLL.out; omega) (by have := HLL.out; omega) HK.out.s2 HK.out.s4 (fun x hx y hy => HO.out.2.2.1 x (HM.out.2.1 x hx) y (HM.out.2.2.2 y hy)) d.size _ _ _ (by omega) (by have := HLL.out; have := HPL.out; have := HE.out; have := HC1.out; simp; omega) (by have := HLL.out; have := HPL.out; have := HE.out; have := HC1.out; simp; omega) (by have := HLL.out; have := HPL.out; have := HE.out; have := HC1.out; simp; omega)).mono ?_
     rintro _ w3 ⟨rfl, C2, d3, hd3, hp2, hs2, hl3, hw3⟩
     replace hl3 : Hid _ := hl3
     have HP2 : Aside _ := And.intro hp2 hs2
     clear hp2 hs2
     have SC : Aside _ := hw3
     clear hw3
     go_wp2
     all_goals go_end0
     all_goals obtain ⟨r1, r2⟩ := merge_join HK.out.cr HP1.out.1 HP2.out.1 HP1.out.2 HP2.out.2
     all_goals exact ⟨rfl, C1 ++ C2, d3, by omega, by rw [HK.out.hA, HK.out.hB]; exact r2, r1, by rw [hl3.out]; simp, SC.out⟩
end Go.Proofs.Ythlingholhjcnaa
